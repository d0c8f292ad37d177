/- Part 7 of the texts that the law's proof stands on, merged. -/
import Derived.Test.YtafeaeaildfohaaGreatDoorRt06
set_option linter.unusedVariables false
set_option linter.unusedSimpArgs false
/- ring.Recursive (for RingTexts, seat .ZD). -/
namespace Go.Proofs.YtafeaeaildfohaaGreatDoor
open Go.RowKit Go.Maps

theorem append_run2 {P : Program} {α : Type} {t : Ty α} {w : World} {B : Nat} {e T ty : TypeId} {v : Value} {xs : List α} {z : Value} {bytes : Nat} (hT : P.underlying T = some (.slice e))
    (hinf : (P.info? e).map (fun i => (i.zero, i.size, i.bytes)) = some (some z, t.sz, bytes)) (hzs : z.cells.size = t.sz) (hsz : 0 < t.sz) (hown : Owns t w B e v xs)
    {nb c : Nat} {y : α} {cs : List Value} (hat : At (mem w) nb 0 cs) (hrv : t.rv ((mem w).on (fun b => some b ≠ v.ownBlock)) cs y) (h1 : ∀ u ∈ cs, u.oneCell' = true)
    (h63 : xs.length + 1 ≤ maxLen) (hbytes : (xs.length + 1) * bytes ≤ 140737488355328) (hbase : B ≤ w.heap.size) :
    ∃ v' w', (Builtin.append_ #[T, T] ty #[v, .slice (some ⟨nb, 0, none⟩) 1 c]).run P w = .ok v' w' ∧ Owns t w' B e v' (xs ++ [y]) ∧ w.grownBy w' v.ownBlock ∧ (v'.ownBlock = v.ownBlock ∨ ∀ k, v'.ownBlock = some k → w.heap.size ≤ k) := by
  obtain ⟨i, hi, hz, hsize, hby⟩ := info_parts hinf
  have hown' := hown
  obtain ⟨css, g1, g2, g4, g5⟩ := hown
  have hl : cs.length = 1 * t.sz := by rw [t.len _ _ _ hrv, Nat.one_mul]
  have hnews : ∀ j u, cs[j]? = some u → w.cell? ((⟨nb, 0, none⟩ : Addr).add j) = some u := fun j u hj => by rw [Addr.add_lit]; exact hat j u hj
  obtain ⟨v', w', hr, h2, h3, _⟩ := run_append_own (P := P) w B T ty e i z t.sz bytes hT hi hz hsize hby hzs hsz v xs.length css.flatten g2 ⟨nb, 0, none⟩ 1 c cs hl hnews h1 h63 hbytes hbase
  have hblk := append_block w B T ty e i z t.sz bytes hT hi hz hsize hby v xs.length css.flatten g2 ⟨nb, 0, none⟩ 1 c cs hl hnews h1 (by omega) h63 hbytes hr
  refine ⟨v', w', hr, hown'.snoc (fun css' hc' => ?_) h3 hblk hrv, h3, hblk⟩
  obtain ⟨v2, w2, hr2, h22, _, _⟩ := run_append_own (P := P) w B T ty e i z t.sz bytes hT hi hz hsize hby hzs hsz v xs.length css'.flatten hc' ⟨nb, 0, none⟩ 1 c cs hl hnews h1 h63 hbytes hbase
  rw [hr] at hr2
  injection hr2 with ev ew
  subst ev; subst ew
  exact h22
/-- What Recursive answers. -/
def RecOut (l : List Rul) (w : World) (e : Ending) (w' : World) : Prop :=
  Below w.heap.size w w' ∧ ((validP l = false ∧ e = .returned (.tuple #[.slice none 0 0, .int .i64 1])) ∨ (validP l = true ∧ ∃ out ov, RecAns l out ∧ e = .returned (.tuple #[ov, .int .i64 0]) ∧ tStrs.rv (mem w') [ov] out))
open Classical in
noncomputable def recF (l : List Rul) (ss : List ByteArray) : List ByteArray := ss.filter fun n => decide (Path l n n)
theorem recF_yes {l : List Rul} {ss : List ByteArray} {k : Nat} (h : k < ss.length) (hp : Path l ss[k] ss[k]) : recF l (ss.take (k + 1)) = recF l (ss.take k) ++ [ss[k]] := by
  unfold recF
  rw [List.take_succ_eq_append_getElem h, List.filter_append]
  simp [hp]
theorem recF_no {l : List Rul} {ss : List ByteArray} {k : Nat} (h : k < ss.length) (hp : ¬ Path l ss[k] ss[k]) : recF l (ss.take (k + 1)) = recF l (ss.take k) := by
  unfold recF
  rw [List.take_succ_eq_append_getElem h, List.filter_append]
  simp [hp]
theorem recF_len (l : List Rul) (ss : List ByteArray) : (recF l ss).length ≤ ss.length := by unfold recF; exact List.length_filter_le _ _
theorem path_succ {l : List Rul} {a b : ByteArray} (h : Path l a b) : ∃ m, m ∈ succN l a := by
  induction h with
  | one h => exact ⟨_, h⟩
  | more _ _ ih => exact ih
theorem recF_ans {l : List Rul} {ss : List ByteArray} {f : ByteArray → Option Value} (ha : AscB ss) (hm : ∀ k, k ∈ ss ↔ (f k).isSome = true) (h0 : ∀ k, f k = none → succN l k = []) : RecAns l (recF l ss) := by
  refine ⟨ha.filter _, fun n => ?_⟩
  unfold recF
  rw [List.mem_filter]
  simp only [decide_eq_true_eq]
  constructor
  · rintro ⟨_, hp⟩
    obtain ⟨m, h⟩ := path_succ hp
    obtain ⟨r, hr, e, _⟩ := succN_mem.1 h
    exact ⟨⟨r, hr, e⟩, hp⟩
  · rintro ⟨_, hp⟩
    refine ⟨(hm n).2 ?_, hp⟩
    obtain ⟨m, h⟩ := path_succ hp
    cases hf : f n with
    | none => rw [h0 n hf] at h; cases h
    | some _ => rfl
theorem pairsR_take {l : List Rul} {k : Nat} (h : k < l.length) : pairsR (l.take (k + 1)) = pairsR (l.take k) ++ (l[k].bd.map fun a => (l[k].hd.n, a.n)) := by
  unfold pairsR
  rw [List.take_succ_eq_append_getElem h, List.flatMap_append]
  simp
theorem pairsR_len {l : List Rul} (h : ∀ r ∈ l, r.bd.length ≤ 3) : (pairsR l).length ≤ 3 * l.length := by
  induction l with
  | nil => simp [pairsR]
  | cons r l ih =>
    have e : pairsR (r :: l) = (r.bd.map fun a => (r.hd.n, a.n)) ++ pairsR l := by unfold pairsR; simp
    rw [e, List.length_append, List.length_map, List.length_cons]
    have := ih (fun x hx => h x (List.mem_cons_of_mem _ hx))
    have := h r List.mem_cons_self
    omega
/-- While the map is made. -/
structure NB (W : World) (B nb vn : Nat) (L : List (ByteArray × ByteArray)) (f : ByteArray → Option Value) (wr : World) : Prop where
  bl' : Below W.heap.size W wr
  nx : Nxt wr B nb L.length L f
  cv : wr.heap[vn]? = some (.cells #[.map (some nb)] 47 (0, 0))
theorem NB.keeps {W wr w' : World} {B nb vn : Nat} {L : List (ByteArray × ByteArray)} {f : ByteArray → Option Value} (h : NB W B nb vn L f wr) (hb : Below wr.heap.size wr w') : NB W B nb vn L f w' :=
  ⟨pure_trans h.bl' hb, h.nx.keeps hb, (hb.block _ (Array.getElem?_eq_some_iff.1 h.cv).1).trans h.cv⟩
def expN (nb rb ab : Nat) (rn an : ByteArray) (sl : Value) : Nat → Option Value
  | 0 => some (.map (some nb))
  | 1 => some (.pointer (some ⟨rb, 0, none⟩))
  | 2 => some (.pointer (some ⟨rb, 0, none⟩))
  | 3 => some (.string rn)
  | 4 => some (.map (some nb))
  | 5 => some (.pointer (some ⟨rb, 0, none⟩))
  | 6 => some (.pointer (some ⟨rb, 0, none⟩))
  | 7 => some (.string rn)
  | 8 => some sl
  | 9 => some (.pointer (some ⟨ab, 0, none⟩))
  | 10 => some (.string an)
  | _ => none
/-- Inside the region that puts a name behind another one's. -/
structure NJ (exp : Nat → Option Value) (Y : World) (an : ByteArray) (C : Value → World → Prop) (Fin : World → Prop) (L : Nat → Bool) (f : Nat → Value) (w' : World) : Prop where
  vs : ∀ i u, exp i = some u → L i = true → f i = u
  d8 : L 8 = true → L 4 = true ∧ L 7 = true
  d11 : L 11 = true → L 10 = true
  d12 : L 12 = true → L 8 = true ∧ L 11 = true
  d13 : L 13 = true → L 12 = true ∧ L 0 = true ∧ L 3 = true
  wA : L 11 = false → w' = Y.drew
  wB : L 11 = true → L 12 = false → w' = Y.drew.alloc (.cells #[.string an] 9) ∧ f 11 = .slice (some ⟨Y.heap.size, 0, none⟩) 1 1
  wC : L 12 = true → L 13 = false → C (f 12) w'
  wD : L 13 = true → Fin w'
theorem bFalse2 {b : Bool} (h : b = false) (h2 : b = true) : False := by rw [h] at h2; cases h2

set_option maxRecDepth 100000 in
set_option maxHeartbeats 8000000 in
theorem ringRecursive_any (l : List Rul) (v : Value) (W : World) (hv : tRuls.rv (mem W) [v] l) :
    Calls Tryz.prog 7 #[v] W (RecOut l W) := by
  have HP := Lib.hid (ringProgram_any l v W hv)
  obtain ⟨a, cap, rfl, hlc, hm, hv⟩ := slice_form hv
  have hcap : cap ≤ 9223372036854775807 := by unfold maxLen at hm; exact hm
  have HV := Lib.hid (fun wr (hb : Below W.heap.size W wr) => tRuls.mono _ _ _ _ (below_mem hb) hv)
  clear hm hv
  go_enter Tryz.func7, Tryz.ntmps7
  go_wp2_with fail
  refine HP.out.mono ?_
  rintro e w1 ⟨rfl, hb1⟩
  have HB1 := Lib.hid hb1
  clear hb1 HP
  cases hp : validP l with
  | false =>
    have HPV := Lib.hid hp
    clear hp
    go_wp2
    go_ret2
    exact ⟨HB1.out, .inl ⟨HPV.out, rfl⟩⟩
  | true =>
  have HBD := Lib.hid (validP_body hp)
  have HL12 := Lib.hid (show l.length ≤ 12 from by unfold validP at hp; rw [Bool.and_eq_true] at hp; exact of_decide_eq_true hp.1)
  have HPV := Lib.hid hp
  clear hp
  obtain ⟨X0, hX0⟩ : ∃ X0, X0 = (w1.alloc (.map #[] 0)).alloc (.cells #[.map (some w1.heap.size)] 47) := ⟨_, rfl⟩
  have HN0 := Lib.hid (show NB W w1.heap.size w1.heap.size (w1.heap.size + 1) [] (fun _ => none) X0 from by
    rw [hX0]
    refine ⟨HB1.out.trans (((Below.refl _ w1).alloc (Nat.le_refl _) _).alloc (by simp) _ |>.mono HB1.out.size), (Nxt.start w1).keeps (boxB _ _), ?_⟩
    have := heap_alloc_new (w1.alloc (.map #[] 0)) (.cells #[.map (some w1.heap.size)] 47)
    rwa [World.size_alloc] at this)
  have HX0 := Lib.hid hX0
  have HSX := Lib.hid (show X0.heap.size = w1.heap.size + 2 from by rw [hX0]; simp)
  clear hX0
  have hmm := @run_makeMap Tryz.prog
  go_wp2_with fail
  clear hmm
  rw [← HX0.out]
  clear HX0
  go_loopw [20] (fun i wr => ∃ (k : Nat) (f : ByteArray → Option Value), k ≤ l.length ∧ i = .int .i64 k ∧ Hid (NB W w1.heap.size w1.heap.size (w1.heap.size + 1) (pairsR (l.take k)) f wr)) (fun i _ => l.length - (intOf i).toNat)
  case atStart => exact ⟨0, _, by omega, rfl, Lib.hid (by rw [List.take_zero]; exact HN0.out)⟩
  case round =>
    clear HN0
    obtain ⟨k, f, hk, rfl, HN⟩ := hrel
    by_cases hlt : k < l.length
    · obtain ⟨b, o, bv, rfl, ⟨q0, q1, q2, q3⟩, hokr, hbd⟩ := ruls_at (HV.out W (Below.refl _ _)) hlt
      have c0 : wr.cell? ⟨b, o + k * 4, none⟩ = some (.string l[k].hd.n) := below_mem HN.out.bl' _ _ _ q0
      have c1 : wr.cell? ⟨b, o + k * 4 + 1, none⟩ = some (.string l[k].hd.a) := below_mem HN.out.bl' _ _ _ q1
      have c2 : wr.cell? ⟨b, o + k * 4 + 2, none⟩ = some (.string l[k].hd.b) := below_mem HN.out.bl' _ _ _ q2
      have c3 : wr.cell? ⟨b, o + k * 4 + 3, none⟩ = some bv := below_mem HN.out.bl' _ _ _ q3
      have HB3 := Lib.hid (HBD.out l[k] (List.getElem_mem hlt))
      have HPT := Lib.hid (pairsR_take hlt)
      have HPL := Lib.hid (show (pairsR (l.take k)).length ≤ 36 from by
        have h1 := pairsR_len (l := l.take k) (fun r hr => HBD.out r (List.mem_of_mem_take hr))
        rw [List.length_take] at h1
        have := HL12.out
        omega)
      obtain ⟨abv, cb, rfl, -, hcb0, -⟩ := slice_form hbd
      have hcb : cb ≤ 9223372036854775807 := by unfold maxLen at hcb0; exact hcb0
      have HOKR := Lib.hid hokr
      clear q0 q1 q2 q3 hokr hcb0
      have HRX := Lib.hid (fun (c : Array Value) => heap_alloc_new wr (.cells c 28))
      have HBX := Lib.hid (boxB wr)
      generalize l[k] = r at *
      obtain ⟨⟨rn, ra, rb⟩, bd⟩ := r
      simp only at c0 c1 c2 c3 HB3 HPT hbd HOKR
      obtain ⟨X, hX⟩ : ∃ X, X = wr.alloc (.cells #[.string rn, .string ra, .string rb, .slice abv bd.length cb] 28) := ⟨_, rfl⟩
      have HX := Lib.hid hX
      have HXR := Lib.hid (show X.heap[wr.heap.size]? = some (.cells #[.string rn, .string ra, .string rb, .slice abv bd.length cb] 28 (0, 0)) from by rw [hX]; exact HRX.out _)
      have HNX := Lib.hid (show NB W w1.heap.size w1.heap.size (w1.heap.size + 1) (pairsR (l.take k)) f X from by rw [hX]; exact HN.out.keeps (HBX.out _))
      have HBDX := Lib.hid hbd
      have hxs : wr.heap.size < X.heap.size := by rw [hX]; simp
      have HWR := Lib.hid (show w1.heap.size + 1 < wr.heap.size from (Array.getElem?_eq_some_iff.1 HN.out.cv).1)
      clear hX HRX HBX HN hbd
      go_upto_region 7 with fail
      rw [← HX.out]
      clear HX c0 c1 c2 c3
      generalize wr.heap.size = rq at *
      have n3 : X.cell? ⟨rq, 3, none⟩ = some (.slice abv bd.length cb) := mem_cells HXR.out 3
      go_wp2_with fail
      clear n3
      go_loopw [27] (fun i wr2 => ∃ (m : Nat) (f2 : ByteArray → Option Value), m ≤ bd.length ∧ i = .int .i64 m ∧ Hid (NB W w1.heap.size w1.heap.size (w1.heap.size + 1) (pairsR (l.take k) ++ (bd.take m).map fun a => (rn, a.n)) f2 wr2) ∧ Hid (wr2.heap[rq]? = some (.cells #[.string rn, .string ra, .string rb, .slice abv bd.length cb] 28 (0, 0)))) (fun i _ => bd.length - (intOf i).toNat)
      case atStart => exact ⟨0, f, by omega, rfl, Lib.hid (by rw [List.take_zero, List.map_nil, List.append_nil]; exact HNX.out), HXR⟩
      case round =>
        clear HNX HXR
        obtain ⟨m, f2, hm, rfl, HN2, HR2⟩ := hrel
        have hb3 := HB3.out
        by_cases hlt2 : m < bd.length
        · obtain ⟨x, y, rfl, ⟨t0, t1, t2⟩, hoka⟩ := fcts_at (tFcts.mono _ _ _ _ (below_mem HN2.out.bl') HBDX.out) hlt2
          have p0 : wr.cell? ⟨x, y + m * 3, none⟩ = some (.string bd[m].n) := t0
          have p1 : wr.cell? ⟨x, y + m * 3 + 1, none⟩ = some (.string bd[m].a) := t1
          have p2 : wr.cell? ⟨x, y + m * 3 + 2, none⟩ = some (.string bd[m].b) := t2
          have HTM := Lib.hid (show pairsR (l.take k) ++ ((bd.take (m + 1)).map fun a => (rn, a.n)) = (pairsR (l.take k) ++ ((bd.take m).map fun a => (rn, a.n))) ++ [(rn, bd[m].n)] from by
            rw [List.take_succ_eq_append_getElem hlt2, List.map_append, List.append_assoc]; rfl)
          have HLL := Lib.hid (show (pairsR (l.take k) ++ ((bd.take m).map fun a => (rn, a.n))).length ≤ 60 from by
            rw [List.length_append, List.length_map, List.length_take]
            have := HPL.out
            have := HB3.out
            omega)
          have HOKA := Lib.hid hoka
          clear t0 t1 t2 hoka
          generalize pairsR (l.take k) ++ ((bd.take m).map fun a => (rn, a.n)) = LL at *
          generalize hLE : pairsR (l.take k) ++ ((bd.take (m + 1)).map fun a => (rn, a.n)) = LL' at HTM
          have HLE := Lib.hid hLE.symm
          clear hLE
          generalize bd[m] = z at *
          obtain ⟨an, aa, ab⟩ := z
          simp only at p0 p1 p2 HTM HOKA
          obtain ⟨Y, hY⟩ : ∃ Y, Y = wr.alloc (.cells #[.string an, .string aa, .string ab] 25) := ⟨_, rfl⟩
          have HY := Lib.hid hY
          have hyb : Below wr.heap.size wr Y := by rw [hY]; exact boxB wr _
          have HBY := Lib.hid hyb
          have HAY := Lib.hid (show Y.heap[wr.heap.size]? = some (.cells #[.string an, .string aa, .string ab] 25 (0, 0)) from by rw [hY]; exact heap_alloc_new wr _)
          have HNY := Lib.hid (HN2.out.keeps hyb)
          have HRY := Lib.hid ((hyb.block _ (Array.getElem?_eq_some_iff.1 HR2.out).1).trans HR2.out)
          clear hY hyb
          go_upto_region 10 with fail
          rw [← HY.out]
          have haq : wr.heap.size < Y.heap.size := (Array.getElem?_eq_some_iff.1 HAY.out).1
          generalize haqe : wr.heap.size = aq at *
          clear HY p0 p1 p2 haqe
          obtain ⟨as', cs', hsl, -⟩ := (HNY.out.nx.row rn).len
          have HSL := Lib.hid hsl
          have HCY := Lib.hid (show Y.drew.cell? ⟨w1.heap.size + 1, 0, none⟩ = some (.map (some w1.heap.size)) ∧ Y.drew.cell? ⟨rq, 0, none⟩ = some (.string rn) ∧ Y.drew.cell? ⟨aq, 0, none⟩ = some (.string an) ∧ (Instr.lookup 47 (.map (some w1.heap.size)) (.string rn) false).run Tryz.prog Y.drew = .ok (.slice as' (toN LL rn).length cs') Y.drew from
            ⟨mem_cells HNY.out.cv 0, mem_cells HRY.out 0, mem_cells HAY.out 0, by rw [← hsl]; exact (HNY.out.nx.im.at (W' := Y.drew) rfl).lookN HOKR.out.1⟩)
          have HCO := Lib.hid (show ∀ o, (Y.drew.alloc o).cell? ⟨w1.heap.size + 1, 0, none⟩ = some (.map (some w1.heap.size)) ∧ (Y.drew.alloc o).cell? ⟨rq, 0, none⟩ = some (.string rn) ∧ (Y.drew.alloc o).cell? ⟨aq, 0, none⟩ = some (.string an) ∧ (Instr.lookup 47 (.map (some w1.heap.size)) (.string rn) false).run Tryz.prog (Y.drew.alloc o) = .ok (.slice as' (toN LL rn).length cs') (Y.drew.alloc o) from fun o =>
            ⟨below_mem (boxB Y.drew o) _ _ _ HCY.out.1, below_mem (boxB Y.drew o) _ _ _ HCY.out.2.1, below_mem (boxB Y.drew o) _ _ _ HCY.out.2.2.1, by rw [← hsl]; exact (HNY.out.nx.im.at (W' := Y.drew.alloc o) (Below.heap_alloc _ _ _ HNY.out.nx.im.lt)).lookN HOKR.out.1⟩)
          have HAPP := Lib.hid (show ∃ v5 w5, (Builtin.append_ #[30, 30] 30 #[.slice as' (toN LL rn).length cs', .slice (some ⟨Y.heap.size, 0, none⟩) 1 1]).run Tryz.prog (Y.drew.alloc (.cells #[.string an] 9)) = .ok v5 w5 ∧
              ((∃ a5 n5 c5, v5 = .slice a5 n5 c5) ∧ w5.cell? ⟨w1.heap.size + 1, 0, none⟩ = some (.map (some w1.heap.size)) ∧ w5.cell? ⟨rq, 0, none⟩ = some (.string rn) ∧ ∃ w6, (Instr.mapUpdate 47 (.map (some w1.heap.size)) (.string rn) v5).run Tryz.prog w5 = .ok () w6 ∧
                ∃ f2, NB W w1.heap.size w1.heap.size (w1.heap.size + 1) LL' f2 w6 ∧ w6.heap[rq]? = some (.cells #[.string rn, .string ra, .string rb, .slice (some ⟨x, y, none⟩) bd.length cb] 28 (0, 0))) from by
            have hYd : Below Y.heap.size Y (Y.drew.alloc (.cells #[.string an] 9)) := ((Below.refl _ Y).drew).alloc (Nat.le_refl _) _
            have hNZ := HNY.out.keeps hYd
            have hrow := hNZ.nx.row rn
            rw [hsl] at hrow
            have hlen : (toN LL rn).length ≤ 60 := Nat.le_trans (toN_len _ _) HLL.out
            have hbz : w1.heap.size ≤ Y.heap.size := Nat.le_of_lt HNY.out.nx.im.lt
            obtain ⟨v5, w5, hr, ho5, hg5, hblk⟩ := append_run2 (P := Tryz.prog) (ty := 30) Tryz.underlying30 Tryz.infoStr2 rfl (by decide) hrow (nb := Y.heap.size) (c := 1) (y := an) (cs := [.string an])
              (fun j w hj => by
                have := mem_cells (heap_alloc_new Y.drew (.cells #[.string an] 9)) (0 + j)
                refine this.trans ?_
                rw [Nat.zero_add]; simpa using hj) ⟨rfl, HOKA.out.1⟩ (fun w hw => by simp at hw; subst hw; rfl) (by unfold maxLen; omega) (by omega) (by show w1.heap.size ≤ (Y.drew.alloc _).heap.size; rw [World.size_alloc]; show w1.heap.size ≤ Y.heap.size + 1; omega)
            have hsz5 : (Y.drew.alloc (.cells #[.string an] 9)).heap.size = Y.heap.size + 1 := by rw [World.size_alloc]; rfl
            have hown : ∀ k, (Value.slice as' (toN LL rn).length cs').ownBlock = some k → w1.heap.size ≤ k ∧ k ≠ w1.heap.size ∧ k ≠ w1.heap.size + 1 ∧ k ≠ rq := fun k hk => by
              have h1 := hrow.lt k hk
              have hcl := own_cells hrow
              refine ⟨h1.1, fun e => ?_, fun e => ?_, fun e => ?_⟩
              · obtain ⟨es, c, hm⟩ := hNZ.nx.im.obj
                subst e
                have := hcl _ _ hk hm
                cases this
              · subst e
                obtain ⟨css, _, ⟨_, h3⟩, _, _⟩ := hrow
                rcases h3 with ⟨h3, _⟩ | ⟨g, cap, cur, h3, _, hh, _⟩
                · rw [h3] at hk; cases hk
                · rw [h3] at hk; cases hk
                  rw [hNZ.cv] at hh
                  injection hh with hh
                  injection hh with _ hh
                  cases hh
              · subst e
                obtain ⟨css, _, ⟨_, h3⟩, _, _⟩ := hrow
                rcases h3 with ⟨h3, _⟩ | ⟨g, cap, cur, h3, _, hh, _⟩
                · rw [h3] at hk; cases hk
                · rw [h3] at hk; cases hk
                  rw [(hYd.block _ (Array.getElem?_eq_some_iff.1 HRY.out).1).trans HRY.out] at hh
                  injection hh with hh
                  injection hh with _ hh
                  cases hh
            have hcv5 : w5.heap[w1.heap.size + 1]? = some (.cells #[.map (some w1.heap.size)] 47 (0, 0)) := (hg5.block _ (Array.getElem?_eq_some_iff.1 hNZ.cv).1 (fun e => (hown _ e.symm).2.2.1 rfl)).trans hNZ.cv
            have hrZ := (hYd.block _ (Array.getElem?_eq_some_iff.1 HRY.out).1).trans HRY.out
            have hr5 : w5.heap[rq]? = some (.cells #[.string rn, .string ra, .string rb, .slice (some ⟨x, y, none⟩) bd.length cb] 28 (0, 0)) := (hg5.block _ (Array.getElem?_eq_some_iff.1 hrZ).1 (fun e => (hown _ e.symm).2.2.2 rfl)).trans hrZ
            have him5 : IM w5 w1.heap.size LL.length f2 := hNZ.nx.im.at (hg5.block _ hNZ.nx.im.lt (fun e => (hown _ e.symm).2.1 rfl))
            obtain ⟨w6, hput, him6, hg6⟩ := him5.putN (by have := HLL.out; unfold maxLen; omega) HOKR.out.1 v5
            have hrx : rq ≠ w1.heap.size := by have := HWR.out; omega
            refine ⟨v5, w5, hr, ?_, mem_cells hcv5 0, mem_cells hr5 0, w6, hput, putAt f2 rn v5, ⟨?_, ?_, ?_⟩, ?_⟩
            · obtain ⟨a5, c5, e5, -⟩ := ho5.len; exact ⟨_, _, _, e5⟩
            · exact ((hNZ.bl'.grown hg5 (by rw [hsz5]; have := HB1.out.size; omega) (fun k hk => Nat.le_trans HB1.out.size (hown k hk).1))).grown hg6 (by have := hg5.size; rw [hsz5] at this; have := HB1.out.size; omega) (fun k hk => by cases hk; exact HB1.out.size)
            · rw [HTM.out, show (LL ++ [(rn, an)]).length = LL.length + 1 by simp]
              exact hNZ.nx.snoc (rn, an) (W5 := w5) ho5 (by rw [hsl]; exact hg5) (by rw [hsl]; exact hblk) hg6 him6
            · exact (hg6.block _ (Array.getElem?_eq_some_iff.1 hcv5).1 (fun e => by injection e with e; omega)).trans hcv5
            · exact (hg6.block _ (Array.getElem?_eq_some_iff.1 hr5).1 (fun e => by injection e with e; exact hrx e)).trans hr5)
          have HCVN := HNY
          refine wp_region_inv (by kernel_rfl) (by kernel_rfl) (by kernel_rfl) (NJ (expN w1.heap.size rq aq rn an (.slice as' (toN LL rn).length cs')) Y an (fun v5 w5 => (∃ a5 n5 c5, v5 = .slice a5 n5 c5) ∧ w5.cell? ⟨w1.heap.size + 1, 0, none⟩ = some (.map (some w1.heap.size)) ∧ w5.cell? ⟨rq, 0, none⟩ = some (.string rn) ∧ ∃ w6, (Instr.mapUpdate 47 (.map (some w1.heap.size)) (.string rn) v5).run Tryz.prog w5 = .ok () w6 ∧ ∃ f2, NB W w1.heap.size w1.heap.size (w1.heap.size + 1) LL' f2 w6 ∧ w6.heap[rq]? = some (.cells #[.string rn, .string ra, .string rb, .slice (some ⟨x, y, none⟩) bd.length cb] 28 (0, 0)))
            (fun w6 => ∃ f2, NB W w1.heap.size w1.heap.size (w1.heap.size + 1) LL' f2 w6 ∧ w6.heap[rq]? = some (.cells #[.string rn, .string ra, .string rb, .slice (some ⟨x, y, none⟩) bd.length cb] 28 (0, 0)))) ?start (AllAt.all ?steps) ?ends
          case start => exact ⟨fun i u _ e => (by cases e), fun e => (by cases e), fun e => (by cases e), fun e => (by cases e), fun e => (by cases e), fun _ => rfl, fun e => (by cases e), fun e => (by cases e), fun e => (by cases e)⟩
          case ends =>
            intro L f w6 hJ hall
            obtain ⟨f3, hN3, hR3⟩ := hJ.wD (hall 13 (by decide))
            have HN3 := Lib.hid hN3
            have HR3 := Lib.hid hR3
            clear hJ hall hN3 hR3
            simp only [putAll, Exit.then, Nat.reduceAdd]
            go_frame
            go_wp2_with fail
            go_roundw
            case rel => exact ⟨m + 1, f3, by omega, by go_num, Lib.hid (by rw [← HLE.out]; exact HN3.out), HR3⟩
            case measure => simp [intOf]; omega
          case steps =>
            refine AllAt.cons 1 ?s0 (AllAt.cons 2 ?s1 (AllAt.cons 3 ?s2 (AllAt.cons 4 ?s3 (AllAt.cons 5 ?s4 (AllAt.cons 6 ?s5 (AllAt.cons 7 ?s6 (AllAt.cons 8 ?s7 (AllAt.cons 9 ?s8 (AllAt.cons 10 ?s9 (AllAt.cons 11 ?s10 (AllAt.cons 12 ?s11 (AllAt.cons 13 ?s12 (AllAt.cons 14 ?s13 AllAt.nil rfl) rfl) rfl) rfl) rfl) rfl) rfl) rfl) rfl) rfl) rfl) rfl) rfl) rfl
            case s0 =>
              intro L f a wz hJ hLi hdep hv h0 K hK
              have e4 : a.eval (.tmp 4) = .pointer (some ⟨w1.heap.size + 1, 0, none⟩) := (h0 4 (noDst_spec (by kernel_rfl))).trans rfl
              have hc : wz.cell? ⟨w1.heap.size + 1, 0, none⟩ = some (.map (some w1.heap.size)) ∧ wz.cell? ⟨rq, 0, none⟩ = some (.string rn) := by
                have h13 : L 13 = false := by
                  cases e : L 13 with
                  | false => rfl
                  | true => first | exact (bFalse2 hLi (hJ.d13 e).2.1).elim | exact (bFalse2 hLi (hJ.d13 e).2.2).elim
                cases e12 : L 12 with
                | true => obtain ⟨-, h1, h2, -⟩ := hJ.wC e12 h13; exact ⟨h1, h2⟩
                | false =>
                  cases e11 : L 11 with
                  | false => rw [hJ.wA e11]; exact ⟨HCY.out.1, HCY.out.2.1⟩
                  | true => rw [(hJ.wB e11 e12).1]; exact ⟨(HCO.out _).1, (HCO.out _).2.1⟩
              obtain ⟨k1, k2⟩ := hc
              refine step_val rfl (v := .map (some w1.heap.size)) (w' := wz) ?_ (hK _ _ ⟨vsAddN hJ.vs (fun u e => Option.some.inj e), hJ.d8, hJ.d11, hJ.d12, fun e => ⟨(hJ.d13 e).1, rfl, (hJ.d13 e).2.2⟩, hJ.wA, hJ.wB, hJ.wC, hJ.wD⟩)
              clear hJ hdep hv h0 hK
              generalize a.eval = ρ at *
              simp [go_sem, execOp, *]
            case s1 =>
              intro L f a wz hJ hLi hdep hv h0 K hK
              have e6 : a.eval (.tmp 6) = .pointer (some ⟨rq, 0, none⟩) := (h0 6 (noDst_spec (by kernel_rfl))).trans rfl
              refine step_val rfl (v := .pointer (some ⟨rq, 0, none⟩)) (w' := wz) ?_ (hK _ _ ⟨vsAddN hJ.vs (fun u e => Option.some.inj e), hJ.d8, hJ.d11, hJ.d12, hJ.d13, hJ.wA, hJ.wB, hJ.wC, hJ.wD⟩)
              clear hJ hdep hv h0 hK
              generalize a.eval = ρ at *
              simp [go_sem, execOp, *]
            case s2 =>
              intro L f a wz hJ hLi hdep hv h0 K hK
              have hL1 := hdep 1 (List.mem_of_elem_eq_true (by kernel_rfl))
              have e32 := (hv 1 32 rfl hL1).trans (hJ.vs 1 _ rfl hL1)
              refine step_val rfl (v := .pointer (some ⟨rq, 0, none⟩)) (w' := wz) ?_ (hK _ _ ⟨vsAddN hJ.vs (fun u e => Option.some.inj e), hJ.d8, hJ.d11, hJ.d12, hJ.d13, hJ.wA, hJ.wB, hJ.wC, hJ.wD⟩)
              clear hJ hdep hv h0 hK
              generalize a.eval = ρ at *
              simp [go_sem, execOp, *]
            case s3 =>
              intro L f a wz hJ hLi hdep hv h0 K hK
              have hL2 := hdep 2 (List.mem_of_elem_eq_true (by kernel_rfl))
              have e33 := (hv 2 33 rfl hL2).trans (hJ.vs 2 _ rfl hL2)
              have hc : wz.cell? ⟨w1.heap.size + 1, 0, none⟩ = some (.map (some w1.heap.size)) ∧ wz.cell? ⟨rq, 0, none⟩ = some (.string rn) := by
                have h13 : L 13 = false := by
                  cases e : L 13 with
                  | false => rfl
                  | true => first | exact (bFalse2 hLi (hJ.d13 e).2.1).elim | exact (bFalse2 hLi (hJ.d13 e).2.2).elim
                cases e12 : L 12 with
                | true => obtain ⟨-, h1, h2, -⟩ := hJ.wC e12 h13; exact ⟨h1, h2⟩
                | false =>
                  cases e11 : L 11 with
                  | false => rw [hJ.wA e11]; exact ⟨HCY.out.1, HCY.out.2.1⟩
                  | true => rw [(hJ.wB e11 e12).1]; exact ⟨(HCO.out _).1, (HCO.out _).2.1⟩
              obtain ⟨k1, k2⟩ := hc
              refine step_val rfl (v := .string rn) (w' := wz) ?_ (hK _ _ ⟨vsAddN hJ.vs (fun u e => Option.some.inj e), hJ.d8, hJ.d11, hJ.d12, fun e => ⟨(hJ.d13 e).1, (hJ.d13 e).2.1, rfl⟩, hJ.wA, hJ.wB, hJ.wC, hJ.wD⟩)
              clear hJ hdep hv h0 hK
              generalize a.eval = ρ at *
              simp [go_sem, execOp, *]
            case s4 =>
              intro L f a wz hJ hLi hdep hv h0 K hK
              have e4 : a.eval (.tmp 4) = .pointer (some ⟨w1.heap.size + 1, 0, none⟩) := (h0 4 (noDst_spec (by kernel_rfl))).trans rfl
              have h12 : L 12 = false := by
                cases e : L 12 with
                | false => rfl
                | true => exact (bFalse2 hLi (hJ.d8 (hJ.d12 e).1).1).elim
              have hc : wz.cell? ⟨w1.heap.size + 1, 0, none⟩ = some (.map (some w1.heap.size)) ∧ wz.cell? ⟨rq, 0, none⟩ = some (.string rn) ∧ wz.cell? ⟨aq, 0, none⟩ = some (.string an) ∧ (Instr.lookup 47 (.map (some w1.heap.size)) (.string rn) false).run Tryz.prog wz = .ok (.slice as' (toN LL rn).length cs') wz := by
                cases e11 : L 11 with
                | false => rw [hJ.wA e11]; exact HCY.out
                | true => rw [(hJ.wB e11 h12).1]; exact HCO.out _
              obtain ⟨k1, k2, k3, k4⟩ := hc
              refine step_val rfl (v := .map (some w1.heap.size)) (w' := wz) ?_ (hK _ _ ⟨vsAddN hJ.vs (fun u e => Option.some.inj e), fun e => ⟨rfl, (hJ.d8 e).2⟩, hJ.d11, hJ.d12, hJ.d13, hJ.wA, hJ.wB, hJ.wC, hJ.wD⟩)
              clear hJ hdep hv h0 hK
              generalize a.eval = ρ at *
              simp [go_sem, execOp, *]
            case s5 =>
              intro L f a wz hJ hLi hdep hv h0 K hK
              have e6 : a.eval (.tmp 6) = .pointer (some ⟨rq, 0, none⟩) := (h0 6 (noDst_spec (by kernel_rfl))).trans rfl
              refine step_val rfl (v := .pointer (some ⟨rq, 0, none⟩)) (w' := wz) ?_ (hK _ _ ⟨vsAddN hJ.vs (fun u e => Option.some.inj e), hJ.d8, hJ.d11, hJ.d12, hJ.d13, hJ.wA, hJ.wB, hJ.wC, hJ.wD⟩)
              clear hJ hdep hv h0 hK
              generalize a.eval = ρ at *
              simp [go_sem, execOp, *]
            case s6 =>
              intro L f a wz hJ hLi hdep hv h0 K hK
              have hL5 := hdep 5 (List.mem_of_elem_eq_true (by kernel_rfl))
              have e36 := (hv 5 36 rfl hL5).trans (hJ.vs 5 _ rfl hL5)
              refine step_val rfl (v := .pointer (some ⟨rq, 0, none⟩)) (w' := wz) ?_ (hK _ _ ⟨vsAddN hJ.vs (fun u e => Option.some.inj e), hJ.d8, hJ.d11, hJ.d12, hJ.d13, hJ.wA, hJ.wB, hJ.wC, hJ.wD⟩)
              clear hJ hdep hv h0 hK
              generalize a.eval = ρ at *
              simp [go_sem, execOp, *]
            case s7 =>
              intro L f a wz hJ hLi hdep hv h0 K hK
              have hL6 := hdep 6 (List.mem_of_elem_eq_true (by kernel_rfl))
              have e37 := (hv 6 37 rfl hL6).trans (hJ.vs 6 _ rfl hL6)
              have h12 : L 12 = false := by
                cases e : L 12 with
                | false => rfl
                | true => exact (bFalse2 hLi (hJ.d8 (hJ.d12 e).1).2).elim
              have hc : wz.cell? ⟨w1.heap.size + 1, 0, none⟩ = some (.map (some w1.heap.size)) ∧ wz.cell? ⟨rq, 0, none⟩ = some (.string rn) ∧ wz.cell? ⟨aq, 0, none⟩ = some (.string an) ∧ (Instr.lookup 47 (.map (some w1.heap.size)) (.string rn) false).run Tryz.prog wz = .ok (.slice as' (toN LL rn).length cs') wz := by
                cases e11 : L 11 with
                | false => rw [hJ.wA e11]; exact HCY.out
                | true => rw [(hJ.wB e11 h12).1]; exact HCO.out _
              obtain ⟨k1, k2, k3, k4⟩ := hc
              refine step_val rfl (v := .string rn) (w' := wz) ?_ (hK _ _ ⟨vsAddN hJ.vs (fun u e => Option.some.inj e), fun e => ⟨(hJ.d8 e).1, rfl⟩, hJ.d11, hJ.d12, hJ.d13, hJ.wA, hJ.wB, hJ.wC, hJ.wD⟩)
              clear hJ hdep hv h0 hK
              generalize a.eval = ρ at *
              simp [go_sem, execOp, *]
            case s8 =>
              intro L f a wz hJ hLi hdep hv h0 K hK
              have hL4 := hdep 4 (List.mem_of_elem_eq_true (by kernel_rfl))
              have e35 := (hv 4 35 rfl hL4).trans (hJ.vs 4 _ rfl hL4)
              have hL7 := hdep 7 (List.mem_of_elem_eq_true (by kernel_rfl))
              have e38 := (hv 7 38 rfl hL7).trans (hJ.vs 7 _ rfl hL7)
              have h12 : L 12 = false := by
                cases e : L 12 with
                | false => rfl
                | true => exact (bFalse2 hLi (hJ.d12 e).1).elim
              have hc : wz.cell? ⟨w1.heap.size + 1, 0, none⟩ = some (.map (some w1.heap.size)) ∧ wz.cell? ⟨rq, 0, none⟩ = some (.string rn) ∧ wz.cell? ⟨aq, 0, none⟩ = some (.string an) ∧ (Instr.lookup 47 (.map (some w1.heap.size)) (.string rn) false).run Tryz.prog wz = .ok (.slice as' (toN LL rn).length cs') wz := by
                cases e11 : L 11 with
                | false => rw [hJ.wA e11]; exact HCY.out
                | true => rw [(hJ.wB e11 h12).1]; exact HCO.out _
              obtain ⟨k1, k2, k3, k4⟩ := hc
              refine step_val rfl (v := .slice as' (toN LL rn).length cs') (w' := wz) ?_ (hK _ _ ⟨vsAddN hJ.vs (fun u e => Option.some.inj e), fun _ => ⟨hL4, hL7⟩, hJ.d11, fun e => ⟨rfl, (hJ.d12 e).2⟩, hJ.d13, hJ.wA, hJ.wB, hJ.wC, hJ.wD⟩)
              clear hJ hdep hv h0 hK
              generalize a.eval = ρ at *
              simp [go_sem, execOp, *]
            case s9 =>
              intro L f a wz hJ hLi hdep hv h0 K hK
              have e8 : a.eval (.tmp 8) = .pointer (some ⟨aq, 0, none⟩) := (h0 8 (noDst_spec (by kernel_rfl))).trans rfl
              refine step_val rfl (v := .pointer (some ⟨aq, 0, none⟩)) (w' := wz) ?_ (hK _ _ ⟨vsAddN hJ.vs (fun u e => Option.some.inj e), hJ.d8, hJ.d11, hJ.d12, hJ.d13, hJ.wA, hJ.wB, hJ.wC, hJ.wD⟩)
              clear hJ hdep hv h0 hK
              generalize a.eval = ρ at *
              simp [go_sem, execOp, *]
            case s10 =>
              intro L f a wz hJ hLi hdep hv h0 K hK
              have hL9 := hdep 9 (List.mem_of_elem_eq_true (by kernel_rfl))
              have e40 := (hv 9 40 rfl hL9).trans (hJ.vs 9 _ rfl hL9)
              have h12 : L 12 = false := by
                cases e : L 12 with
                | false => rfl
                | true => exact (bFalse2 hLi (hJ.d11 (hJ.d12 e).2)).elim
              have hc : wz.cell? ⟨w1.heap.size + 1, 0, none⟩ = some (.map (some w1.heap.size)) ∧ wz.cell? ⟨rq, 0, none⟩ = some (.string rn) ∧ wz.cell? ⟨aq, 0, none⟩ = some (.string an) ∧ (Instr.lookup 47 (.map (some w1.heap.size)) (.string rn) false).run Tryz.prog wz = .ok (.slice as' (toN LL rn).length cs') wz := by
                cases e11 : L 11 with
                | false => rw [hJ.wA e11]; exact HCY.out
                | true => rw [(hJ.wB e11 h12).1]; exact HCO.out _
              obtain ⟨k1, k2, k3, k4⟩ := hc
              refine step_val rfl (v := .string an) (w' := wz) ?_ (hK _ _ ⟨vsAddN hJ.vs (fun u e => Option.some.inj e), hJ.d8, fun _ => rfl, hJ.d12, hJ.d13, hJ.wA, hJ.wB, hJ.wC, hJ.wD⟩)
              clear hJ hdep hv h0 hK
              generalize a.eval = ρ at *
              simp [go_sem, execOp, *]
            case s11 =>
              intro L f a wz hJ hLi hdep hv h0 K hK
              have hL10 := hdep 10 (List.mem_of_elem_eq_true (by kernel_rfl))
              have e41 := (hv 10 41 rfl hL10).trans (hJ.vs 10 _ rfl hL10)
              obtain rfl := hJ.wA hLi
              refine step_val rfl (v := .slice (some ⟨Y.heap.size, 0, none⟩) 1 1) (w' := Y.drew.alloc (.cells #[.string an] 9)) ?_ (hK _ _ ⟨vsAddN hJ.vs (fun u e => absurd (show (none : Option Value) = some u from e) (by simp)), hJ.d8, fun _ => hL10, fun e => ⟨(hJ.d12 e).1, rfl⟩, hJ.d13, fun e => (by cases e), fun _ _ => ⟨rfl, rfl⟩, fun e => (bFalse2 hLi (hJ.d12 e).2).elim, fun e => (bFalse2 hLi (hJ.d12 (hJ.d13 e).1).2).elim⟩)
              clear hJ hdep hv h0 hK
              generalize a.eval = ρ at *
              have eY : Y.drew.heap.size = Y.heap.size := rfl
              simp [go_sem, execOp, *]
            case s12 =>
              intro L f a wz hJ hLi hdep hv h0 K hK
              have hL8 := hdep 8 (List.mem_of_elem_eq_true (by kernel_rfl))
              have e39 := (hv 8 39 rfl hL8).trans (hJ.vs 8 _ rfl hL8)
              have hL11 := hdep 11 (List.mem_of_elem_eq_true (by kernel_rfl))
              obtain ⟨rfl, hf11⟩ := hJ.wB hL11 hLi
              have e42 := (hv 11 42 rfl hL11).trans hf11
              obtain ⟨v5, w5, hrun, hC⟩ := HAPP.out
              refine step_val rfl (v := v5) (w' := w5) ?_ (hK _ _ ⟨vsAddN hJ.vs (fun u e => absurd (show (none : Option Value) = some u from e) (by simp)), hJ.d8, hJ.d11, fun _ => ⟨hL8, hL11⟩, fun e => ⟨rfl, (hJ.d13 e).2⟩, fun e => (bFalse2 e hL11).elim, fun _ e => (by cases e), fun _ _ => hC, fun e => (bFalse2 hLi (hJ.d13 e).1).elim⟩)
              clear hJ hdep hv h0 hK
              generalize a.eval = ρ at *
              simp only [execOp, resolve, invoke, builtin, Sem.run_bind, Sem.run_pure, Result.andThen_ok, List.map_toArray, List.map_cons, List.map_nil, e39, e42, hrun]
            case s13 =>
              intro L f a wz hJ hLi hdep hv h0 K hK
              have hL0 := hdep 0 (List.mem_of_elem_eq_true (by kernel_rfl))
              have e31 := (hv 0 31 rfl hL0).trans (hJ.vs 0 _ rfl hL0)
              have hL3 := hdep 3 (List.mem_of_elem_eq_true (by kernel_rfl))
              have e34 := (hv 3 34 rfl hL3).trans (hJ.vs 3 _ rfl hL3)
              have hL12 := hdep 12 (List.mem_of_elem_eq_true (by kernel_rfl))
              obtain ⟨⟨a5, n5, c5, hf12⟩, k1, k2, w6, hput, hfin⟩ := hJ.wC hL12 hLi
              have e43 := (hv 12 43 rfl hL12)
              rw [hf12] at e43 hput
              refine step_skip rfl (w' := w6) ?_ (hK _ _ ⟨vsAddN hJ.vs (fun u e => absurd (show (none : Option Value) = some u from e) (by simp)), hJ.d8, hJ.d11, hJ.d12, fun _ => ⟨hL12, hL0, hL3⟩, fun e => (bFalse2 e (hJ.d12 hL12).2).elim, fun _ e => (bFalse2 e hL12).elim, fun _ e => (by cases e), fun _ => hfin⟩)
              clear hJ hdep hv h0 hK
              generalize a.eval = ρ at *
              simp [go_sem, execOp, *]
        · obtain rfl : m = bd.length := by omega
          rw [List.take_length] at HN2
          have HN3 := Lib.hid (show NB W w1.heap.size w1.heap.size (w1.heap.size + 1) (pairsR (l.take (k + 1))) f2 wr from by rw [HPT.out]; exact HN2.out)
          go_wp2
          exact ⟨⟨k + 1, f2, by omega, by go_num, HN3⟩, by simp [intOf]; omega⟩
    · obtain rfl : k = l.length := by omega
      rw [List.take_length] at HN
      have HVN := Lib.hid HN.out.cv
      have cvn : wr.cell? ⟨w1.heap.size + 1, 0, none⟩ = some (.map (some w1.heap.size)) := mem_cells HN.out.cv 0
      have HKY := Lib.hid (keysN_any (some w1.heap.size) wr)
      have HPLL := Lib.hid (show (pairsR l).length ≤ 36 from by
        have h1 := pairsR_len (l := l) HBD.out
        have := HL12.out
        omega)
      have HSO := Lib.hid (sortedN_any w1.heap.size (pairsR l).length f wr HN.out.nx.im (by have := HPLL.out; omega))
      clear HSX
      go_wp2_with fail
      refine HKY.out.mono ?_
      rintro e w2 ⟨rfl, rfl⟩
      go_wp2_with fail
      refine HSO.out.mono ?_
      rintro e w3 ⟨sv, ss, rfl, hrs, hasc, hmem, hsl, hb3⟩
      have HRS := Lib.hid (tStrs.mono _ _ _ _ (Mem.on_le _ _) hrs)
      have HASC := Lib.hid hasc
      have HMEM := Lib.hid hmem
      have HSL := Lib.hid hsl
      have HN3 := Lib.hid (HN.out.keeps hb3)
      have HSZ3 := Lib.hid hb3.size
      obtain ⟨sa, sc, rfl, hsc1, hsc2, -⟩ := slice_form hrs
      have hsc : sc ≤ 9223372036854775807 := by unfold maxLen at hsc2; exact hsc2
      have hsl36 : ss.length ≤ 36 := by have := HPLL.out; omega
      clear hrs hasc hmem hsl hb3 HKY HSO cvn hsc2
      go_wp2_with fail
      obtain ⟨wq, hwq⟩ : ∃ wq, wq = wr := ⟨_, rfl⟩
      subst hwq
      go_loopw [9, 50] (fun ov i wr => ∃ k : Nat, k ≤ ss.length ∧ i = .int .i64 k ∧ Owns tStr wr w3.heap.size 9 ov (recF l (ss.take k)) ∧ Hid (Below w3.heap.size w3 wr)) (fun _ i _ => ss.length - (intOf i).toNat)
      case atStart => exact ⟨0, by omega, rfl, Owns.nil _ _ _ _, Lib.hid (Below.refl _ _)⟩
      case round =>
        obtain ⟨k, hk, rfl, hown, HB⟩ := hrel
        by_cases hlt : k < ss.length
        · obtain ⟨b, o, rfl, q0, hns⟩ := str_cell (tStrs.mono _ _ _ _ (below_mem HB.out) HRS.out) hlt
          have c0 : wr.cell? ⟨b, o + k, none⟩ = some (.string ss[k]) := q0
          have HYES := Lib.hid (fun h => recF_yes (l := l) hlt h)
          have HNO := Lib.hid (fun h => recF_no (l := l) hlt h)
          have HRL := Lib.hid (show (recF l (ss.take k)).length ≤ 36 from Nat.le_trans (recF_len _ _) (by rw [List.length_take]; omega))
          clear q0
          generalize ss[k] = n at *
          obtain ⟨Z, hZ⟩ : ∃ Z, Z = ((wr.alloc (.map #[] 0)).alloc (.cells #[.map (some wr.heap.size)] 52)).alloc (.cells #[.func (.func 21) #[] #[.pointer (some ⟨w1.heap.size + 1, 0, none⟩), .pointer (some ⟨wr.heap.size + 1, 0, none⟩), .pointer (some ⟨wr.heap.size + 1 + 1, 0, none⟩)]] 53) := ⟨_, rfl⟩
          have hmm := @run_makeMap Tryz.prog
          go_wp2_with fail
          clear hmm
          rw [← hZ]
          have hzb : Below wr.heap.size wr Z := by rw [hZ]; exact (((Below.refl _ wr).alloc (Nat.le_refl _) _).alloc (by simp) _).alloc (by simp <;> omega) _
          have hz0 : Z.heap[wr.heap.size]? = some (.map #[] 0) := by
            rw [hZ]
            exact (Below.heap_alloc _ _ _ (by simp <;> omega)).trans ((Below.heap_alloc _ _ _ (by simp)).trans (heap_alloc_new wr _))
          have hz1 : Z.heap[wr.heap.size + 1]? = some (.cells #[.map (some wr.heap.size)] 52 (0, 0)) := by
            rw [hZ]
            refine (Below.heap_alloc _ _ _ (by simp <;> omega)).trans ?_
            have := heap_alloc_new (wr.alloc (.map #[] 0)) (.cells #[.map (some wr.heap.size)] 52)
            rwa [World.size_alloc] at this
          have hz2 : Z.heap[wr.heap.size + 1 + 1]? = some (.cells #[.func (.func 21) #[] #[.pointer (some ⟨w1.heap.size + 1, 0, none⟩), .pointer (some ⟨wr.heap.size + 1, 0, none⟩), .pointer (some ⟨wr.heap.size + 1 + 1, 0, none⟩)]] 53 (0, 0)) := by
            rw [hZ]
            have := heap_alloc_new ((wr.alloc (.map #[] 0)).alloc (.cells #[.map (some wr.heap.size)] 52)) (.cells #[.func (.func 21) #[] #[.pointer (some ⟨w1.heap.size + 1, 0, none⟩), .pointer (some ⟨wr.heap.size + 1, 0, none⟩), .pointer (some ⟨wr.heap.size + 1 + 1, 0, none⟩)]] 53)
            rwa [World.size_alloc, World.size_alloc] at this
          have hmade : IM Z wr.heap.size 0 (metF []) := by
            rw [metF_nil, hZ]
            have h1 : IM (wr.alloc (.map #[] 0)) wr.heap.size 0 (fun _ => none) := MapOf.made wr
            exact (h1.at (Below.heap_alloc _ _ _ (by simp))).at (Below.heap_alloc _ _ _ (by simp <;> omega))
          have hnbz := (HN3.out.keeps HB.out).keeps hzb
          have hne : w1.heap.size < wr.heap.size := (HN3.out.keeps HB.out).nx.im.lt
          have env : WEnv Z l w1.heap.size (w1.heap.size + 1) (wr.heap.size + 1) (wr.heap.size + 1 + 1) wr.heap.size (pairsR l).length f :=
            ⟨hnbz.nx.im, fun s => by have := (hnbz.nx.row s).rv'; rwa [toN_pairs] at this, hnbz.cv, hz1, hz2, by omega, _, _, hz0⟩
          have HENV := Lib.hid env
          have HZB := Lib.hid hzb
          have HWK := Lib.hid (walk_any env _ n [] 0 Z rfl hns (by
            have h1 : unmet ((pairsR l).map (·.2)) [] ≤ ((pairsR l).map (·.2)).length := by unfold unmet; exact List.length_filter_le _ _
            rw [List.length_map] at h1
            have := HPLL.out
            omega) hmade (Keeps.refl _ _))
          have HZS := Lib.hid (show wr.heap.size < Z.heap.size from (Array.getElem?_eq_some_iff.1 hz0).1)
          clear hzb hz0 hz1 hz2 hmade hnbz env hZ c0
          refine HWK.out.mono ?_
          rintro e w7 ⟨rfl, M', n', hm7, -, -, hk7, hw7⟩
          have HPATH := Lib.hid (show n ∈ M' ↔ Path l n n from by
            have h0 : (fun x => x ∈ ([] : List ByteArray)) = fun _ => False := by funext x; simp
            rw [h0] at hw7
            exact hw7.done n)
          have hlb := hm7.lookB hns
          have cmv : w7.cell? ⟨wr.heap.size + 1, 0, none⟩ = some (.map (some wr.heap.size)) := HENV.out.mem hk7 _ _ _ (mem_cells HENV.out.cm 0)
          have HO7 := Lib.hid ((hown.keeps HZB.out).keepsFlat tStr_flat hk7 (fun q hq e => by have := (hown.lt q hq).2; omega))
          have HB7 := Lib.hid (show Below w3.heap.size w3 w7 from (HB.out.trans (HZB.out.mono HB.out.size)).trans (hk7.below (by have := HB.out.size; have := HZS.out; omega) (fun q e => by have := HB.out.size; omega)))
          clear hm7 hk7 hw7 hown HWK HENV HZB HB
          by_cases hpm : n ∈ M'
          · rw [metF_yes hpm] at hlb
            have HTN := Lib.hid (HYES.out (HPATH.out.1 hpm))
            clear hpm HYES HNO
            generalize recF l (ss.take k) = os at *
            generalize hos : recF l (ss.take (k + 1)) = os' at HTN
            have HOS := Lib.hid hos
            clear hos
            go_wp2_with (at_builtin; refine wpList_append_str2 rfl _ _ 30 rfl Tryz.underlying30 Tryz.infoStr2 w3.heap.size _ os rfl (HO7.out.alloc _) _ _ n rfl (by simp) hns (by have := HRL.out; omega) (by have := HB7.out.size; simp; omega) ?_)
            intro v' w8 own8 hgrow _
            have HB8 := Lib.hid ((HB7.out.alloc HB7.out.size _).grown hgrow (by have := HB7.out.size; simp; omega) (fun k hk => (HO7.out.lt k hk).1))
            have HO8 := Lib.hid (show Owns tStr w8 w3.heap.size 9 v' os' by rw [HTN.out]; exact own8)
            clear own8 hgrow HO7 HB7
            go_wp2
            go_roundw
            case rel => exact ⟨k + 1, by omega, by go_num, by rw [HOS.out]; exact HO8.out, HB8⟩
            case measure => simp [intOf]; omega
          · rw [metF_no hpm] at hlb
            have HTN := Lib.hid (HNO.out (fun h => hpm (HPATH.out.2 h)))
            clear hpm HYES HNO
            go_wp2
            go_roundw
            case rel => exact ⟨k + 1, by omega, by go_num, by rw [HTN.out]; exact HO7.out, HB7⟩
            case measure => simp [intOf]; omega
        · obtain rfl : k = ss.length := by omega
          have HE := Lib.hid (show RecAns l (recF l ss) from recF_ans HASC.out HMEM.out (fun k hk => by rw [← toN_pairs]; exact HN3.out.nx.none' k hk))
          rw [List.take_length] at hown
          have HR := Lib.hid hown.rv'
          obtain ⟨oa, oc, rfl, -⟩ := hown.len
          have HB4 := Lib.hid (pure_trans HN3.out.bl' HB.out)
          go_wp2
          go_ret2
          exact ⟨HB4.out, .inr ⟨HPV.out, _, _, HE.out, rfl, HR.out⟩⟩
end Go.Proofs.YtafeaeaildfohaaGreatDoor
/- Guarded operations of a drawn region, as steps of wp_region_inv. -/
namespace Go.Proofs.YtafeaeaildfohaaGreatDoor
open Go.RowKit
theorem yielded_of {ops : Array Oper} {a : Act} {j : Nat} {d : Tmp} {b : Bool} (hd : dstOf ops j = some d) (he : a.eval (.tmp d) = .bool b) : yielded ops a.tmps j = some b := by
  unfold yielded
  rw [show (ops[j]?).bind (·.dst) = some d from hd]
  simp only [Act.eval, Array.getD_eq_getD_getElem?] at he
  cases hx : a.tmps[d]? with
  | none => rw [hx] at he; cases he
  | some x => rw [hx] at he; simp at he; subst he; simp [hx]
section
variable {P : Program} {ops : Array Oper} {Q : Exit → Act → World → Prop}
theorem want_g {o : Oper} {a : Act} {j : Nat} {b : Bool} (hg : o.guard = some (j, b)) (hy : yielded ops a.tmps j = some b) : Region.wanted o (yielded ops a.tmps) = true := by
  simp [Region.wanted, hg, hy]
theorem step_valG {o : Oper} {a : Act} {w w' : World} {K : Act → World → Prop} {E : Prop} {v : Value} {j : Nat} {b : Bool} (hg : o.guard = some (j, b)) (hy : yielded ops a.tmps j = some b) (hr : (execOp a.eval o).run P w = .ok (.value v) w') (h : K (a.put o.dst v) w') :
    if Region.wanted o (yielded ops a.tmps) = true then Oper.wp P o a w K Q else E := by
  rw [if_pos (want_g hg hy)]
  unfold Oper.wp
  rw [hr]
  exact h
theorem step_callG {o : Oper} {a : Act} {w w' : World} {K : Act → World → Prop} {E : Prop} {fn : FuncId} {args : Array Value} {R : Value → World → Prop} {j : Nat} {b : Bool} (hg : o.guard = some (j, b)) (hy : yielded ops a.tmps j = some b) (hr : (execOp a.eval o).run P w = .ok (.enter fn args) w') (hc : Calls P fn args w' fun e w'' => ∃ v, e = .returned v ∧ R v w'') (h : ∀ v w'', R v w'' → K (a.put o.dst v) w'') :
    if Region.wanted o (yielded ops a.tmps) = true then Oper.wp P o a w K Q else E := by
  rw [if_pos (want_g hg hy)]
  unfold Oper.wp
  rw [hr]
  exact hc.mono (fun e w'' ⟨v, he, hR⟩ => by subst he; exact h v w'' hR)
theorem step_unG {o : Oper} {a : Act} {w : World} {K : Act → World → Prop} {E : Prop} {j : Nat} {b b' : Bool} (hg : o.guard = some (j, b)) (hy : yielded ops a.tmps j = some b') (hne : b' ≠ b) (h : K (a.put o.dst undef) w) :
    if Region.wanted o (yielded ops a.tmps) = true then E else K (a.put o.dst undef) w := by
  rw [if_neg (by simp [Region.wanted, hg, hy, hne])]
  exact h
end
end Go.Proofs.YtafeaeaildfohaaGreatDoor
