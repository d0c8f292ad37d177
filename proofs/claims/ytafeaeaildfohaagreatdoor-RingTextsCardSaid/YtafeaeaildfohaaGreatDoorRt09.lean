/- Part 9 of the texts that the law's proof stands on, merged. -/
import Derived.Deep.DeepHandedRow
import Derived.Lay
import Derived.Test.YtafeaeaildfohaaGreatDoorRt08
set_option linter.unusedVariables false
set_option linter.unusedSimpArgs false
/- The walk in breadth: its lists in memory and the answer as it grows (for RingTexts, seat .ZD). -/
namespace Go.Proofs.YtafeaeaildfohaaGreatDoor
open Go.RowKit Go.Maps

/-- What was seen and what is next, in blocks of their own. -/
structure BMem (W0 wr : World) (sv nv : Value) (seen next : List ByteArray) : Prop where
  os : Owns tStr wr W0.heap.size 9 sv seen
  on : OwnsO tStr wr 9 nv next
  ge : ∀ k, nv.ownBlock = some k → W0.heap.size ≤ k
  ne : ∀ k, sv.ownBlock = some k → nv.ownBlock ≠ some k
  bl : Below W0.heap.size W0 wr
section
variable {W0 wr w' : World} {sv nv sv' nv' : Value} {seen next seen' next' : List ByteArray}
theorem BMem.keeps (h : BMem W0 wr sv nv seen next) (hb : Below wr.heap.size wr w') : BMem W0 w' sv nv seen next :=
  ⟨h.os.keeps hb, h.on.keeps (fun k hk => hb.block k (h.on.lt k hk)), h.ge, h.ne, pure_trans h.bl hb⟩
theorem BMem.grow1 (h : BMem W0 wr sv nv seen next) (own : Owns tStr w' W0.heap.size 9 sv' seen') (hg : wr.grownBy w' sv.ownBlock) (hbl : sv'.ownBlock = sv.ownBlock ∨ ∀ k, sv'.ownBlock = some k → wr.heap.size ≤ k) : BMem W0 w' sv' nv seen' next := by
  refine ⟨own, h.on.keeps (fun k hk => hg.block k (h.on.lt k hk) (fun e => h.ne k e.symm hk)), h.ge, fun k hk => ?_, h.bl.grown hg h.bl.size (fun k hk => (h.os.lt k hk).1)⟩
  rcases hbl with hbl | hbl
  · rw [hbl] at hk; exact h.ne k hk
  · intro e
    have := hbl k hk
    have := h.on.lt k e
    omega
theorem BMem.grow2 (h : BMem W0 wr sv nv seen next) (own : OwnsO tStr w' 9 nv' next') (hg : wr.grownBy w' nv.ownBlock) (hbl : nv'.ownBlock = nv.ownBlock ∨ ∀ k, nv'.ownBlock = some k → wr.heap.size ≤ k) : BMem W0 w' sv nv' seen next' := by
  refine ⟨h.os.keepsFlat tStr_flat (grown_keeps hg) (fun k hk e => h.ne k hk e.symm), own, fun k hk => ?_, fun k hk => ?_, h.bl.grown hg h.bl.size h.ge⟩
  · rcases hbl with hbl | hbl
    · rw [hbl] at hk; exact h.ge k hk
    · exact Nat.le_trans h.bl.size (hbl k hk)
  · rcases hbl with hbl | hbl
    · rw [hbl]; exact h.ne k hk
    · intro e
      have := hbl k e
      have := (h.os.lt k hk).2
      omega
theorem BMem.same (h : BMem W0 wr sv nv seen next) (own : OwnsO tStr wr 9 nv' next') (hbl : nv'.ownBlock = nv.ownBlock) : BMem W0 wr sv nv' seen next' :=
  ⟨h.os, own, fun k hk => h.ge k (hbl ▸ hk), fun k hk => by rw [hbl]; exact h.ne k hk, h.bl⟩
end
/-- How many there are. -/
structure BCnt (U : List ByteArray) (m : Nat) (seen next : List ByteArray) : Prop where
  cnt : seen.length + unmet U seen ≤ 36
  len : next.length ≤ seen.length + 1
  mes : 2 * (36 - seen.length) + next.length ≤ m
theorem unmet_snoc {U M : List ByteArray} {t : ByteArray} (h : t ∈ U) (hn : t ∉ M) : unmet U (M ++ [t]) < unmet U M := by
  have e : unmet U (M ++ [t]) = unmet U (t :: M) := by
    unfold unmet
    congr 2
    funext x
    simp [or_comm]
  rw [e]; exact unmet_cons h hn
theorem BCnt.add {U : List ByteArray} {m : Nat} {seen next : List ByteArray} {t : ByteArray} (h : BCnt U m seen next) (ht : t ∈ U) (hn : t ∉ seen) : BCnt U m (seen ++ [t]) (next ++ [t]) := by
  have h1 := unmet_snoc ht hn
  have h2 := h.cnt
  have h3 := h.len
  have h4 := h.mes
  refine ⟨by simp; omega, by simp; omega, by simp; omega⟩
theorem BCnt.start {U : List ByteArray} (h : U.length ≤ 36) (s : ByteArray) : BCnt U 73 [] [s] :=
  ⟨by unfold unmet; simp only [List.length_nil, Nat.zero_add]; exact Nat.le_trans (List.length_filter_le _ _) h, by simp, by simp⟩
theorem BCnt.tail {U : List ByteArray} {m : Nat} {seen next : List ByteArray} {t : ByteArray} (h : BCnt U m seen (t :: next)) : BCnt U (2 * (36 - seen.length) + next.length) seen next :=
  ⟨h.cnt, by have := h.len; simp at this; omega, Nat.le_refl _⟩
theorem BMem.start (W0 : World) (s : ByteArray) (hs : s.size ≤ maxLen) : BMem W0 ((W0.alloc (.cells #[] 9)).alloc (.cells #[.string s] 9)) (.slice (some ⟨W0.heap.size, 0, none⟩) 0 0) (.slice (some ⟨W0.heap.size + 1, 0, none⟩) 1 1) [] [s] := by
  have hh : ((W0.alloc (.cells #[] 9)).alloc (.cells #[.string s] 9)).heap[W0.heap.size + 1]? = some (.cells #[.string s] 9 (0, 0)) := by
    have := heap_alloc_new (W0.alloc (.cells #[] 9)) (.cells #[.string s] 9)
    rwa [World.size_alloc] at this
  refine ⟨(own_lit0 tStr W0 9).alloc _, ⟨[[.string s]], rfl, fun k h h' => ?_, .inr ⟨_, 0, 1, _, rfl, hh, Nat.le_refl _, by unfold maxLen; decide, (show 0 + 1 * 1 ≤ 1 from by decide), rfl⟩⟩, fun k hk => ?_, fun k hk => ?_, (boxB W0 _).alloc (by simp) _⟩
  · have : k = 0 := by simp at h; omega
    subst this
    exact ⟨rfl, hs⟩
  · simp [Value.ownBlock] at hk; omega
  · simp [Value.ownBlock] at hk ⊢; omega
/-- The answer as it grows. -/
structure RecUp (l : List Rul) (i : Nat) (out : List ByteArray) : Prop where
  asc : AscB out
  mem : ∀ n, n ∈ out ↔ (∃ r ∈ l.take i, r.hd.n = n) ∧ Path l n n
  le : out.length ≤ i
theorem take_head {l : List Rul} {i : Nat} (h : i < l.length) {n : ByteArray} : (∃ r ∈ l.take (i + 1), r.hd.n = n) ↔ (∃ r ∈ l.take i, r.hd.n = n) ∨ l[i].hd.n = n := by
  rw [List.take_succ_eq_append_getElem h]
  constructor
  · rintro ⟨r, hr, e⟩
    rcases List.mem_append.1 hr with hr | hr
    · exact .inl ⟨r, hr, e⟩
    · simp at hr; subst hr; exact .inr e
  · rintro (⟨r, hr, e⟩ | e)
    · exact ⟨r, List.mem_append_left _ hr, e⟩
    · exact ⟨_, List.mem_append_right _ List.mem_cons_self, e⟩
theorem RecUp.start (l : List Rul) : RecUp l 0 [] := ⟨List.Pairwise.nil, by simp, by simp⟩
theorem RecUp.skip {l : List Rul} {i : Nat} {out : List ByteArray} (h : RecUp l i out) (hi : i < l.length) (hs : Path l l[i].hd.n l[i].hd.n → l[i].hd.n ∈ out) : RecUp l (i + 1) out := by
  refine ⟨h.asc, fun n => ?_, by have := h.le; omega⟩
  rw [take_head hi, h.mem]
  constructor
  · rintro ⟨a, b⟩; exact ⟨.inl a, b⟩
  · rintro ⟨a | a, b⟩
    · exact ⟨a, b⟩
    · subst a; exact (h.mem _).1 (hs b)
theorem RecUp.add {l : List Rul} {i k : Nat} {out : List ByteArray} {n : ByteArray} (h : RecUp l i out) (hi : i < l.length) (hn : l[i].hd.n = n) (hp : Path l n n) (hno : n ∉ out) (hk : k ≤ out.length)
    (h1 : 0 < k → ∀ h : k - 1 < out.length, nameC out[k - 1] n ≤ 0) (h2 : ∀ j, (h : j < out.length) → k ≤ j → 0 < nameC out[j] n) : RecUp l (i + 1) (out.take k ++ (n :: out.drop k)) := by
  have hlo : ∀ y ∈ out.take k, nameC y n < 0 := fun y hy => by
    obtain ⟨j, hj, rfl⟩ := List.getElem_of_mem hy
    rw [List.getElem_take]
    have hj' : j < k ∧ j < out.length := by rw [List.length_take] at hj; omega
    have hne : nameC out[j] n ≠ 0 := fun e => hno (by
      have : out[j] = n := tl_inj (cmpBytes_eq e)
      rw [← this]; exact List.getElem_mem _)
    have hl := h1 (by omega) (by omega)
    by_cases e : j = k - 1
    · subst e; omega
    · have ha := List.pairwise_iff_getElem.1 h.asc j (k - 1) (by omega) (by omega) (by omega)
      have := (nameC_good.trans _ _ _ (Int.le_of_lt ha) hl).1
      omega
  have hhi : ∀ y ∈ out.drop k, nameC n y < 0 := fun y hy => by
    obtain ⟨j, hj, rfl⟩ := List.getElem_of_mem hy
    rw [List.getElem_drop, nameC_good.anti]
    have := h2 (k + j) (by rw [List.length_drop] at hj; omega) (by omega)
    omega
  refine ⟨h.asc.insert hlo hhi, fun m => ?_, ?_⟩
  · rw [insert_mem, take_head hi, h.mem, hn]
    constructor
    · rintro (rfl | ⟨a, b⟩)
      · exact ⟨.inr rfl, hp⟩
      · exact ⟨.inl a, b⟩
    · rintro ⟨a | a, b⟩
      · exact .inr ⟨a, b⟩
      · exact .inl a.symm
  · have := h.le
    simp [List.length_take, List.length_drop]
    omega
theorem RecUp.ans {l : List Rul} {out : List ByteArray} (h : RecUp l l.length out) : RecAns l out := ⟨h.asc, fun n => by rw [h.mem, List.take_length]⟩
theorem tStr_one1 : ∀ m cs x, tStr.rv m cs x → ∀ u ∈ cs, u.oneCell' = true := fun m cs x h u hu => by
  obtain ⟨rfl, _⟩ := h
  simp at hu
  subst hu; rfl
section
variable {P : Program}
theorem wpList_append_o2 {α : Type} {ops : Array Oper} {rest : List Oper} {o : Oper} {a : Act} {Q : Exit → Act → World → Prop} {w : World} (hgd : o.guard = none) (s x : Operand) (T : TypeId)
    (ho : o.op = .call { callee := .builtin .append, args := #[s, x], argTypes := #[T, T] }) (t : Ty α) (hf : t.flat) (hone : ∀ m cs x, t.rv m cs x → ∀ u ∈ cs, u.oneCell' = true) {e : TypeId} {z : Value} {bytes : Nat} (hT : P.underlying T = some (.slice e))
    (hinf : (P.info? e).map (fun i => (i.zero, i.size, i.bytes)) = some (some z, t.sz, bytes)) (hzs : z.cells.size = t.sz) (hsz : 0 < t.sz) (v : Value) (xs ys : List α) (hs : a.eval s = v) (hown : OwnsO t w e v xs)
    (ad : Option Addr) (n c : Nat) (hx : a.eval x = .slice ad n c) (hn : n = ys.length) (hy : (tSlice t).rv (mem w) [.slice ad n c] ys) (h63 : xs.length + ys.length ≤ maxLen) (hbytes : (xs.length + ys.length) * bytes ≤ 140737488355328)
    (h : ∀ v' w', OwnsO t w' e v' (xs ++ ys) → AppAt w w' v xs.length ys.length v' → wpList P ops Q rest (a.put o.dst v') w') : wpList P ops Q (o :: rest) a w := by
  subst hn
  refine wpList_plain hgd fun K hK => ?_
  obtain ⟨v', w', hr, h2, h3⟩ := run_append_os (P := P) hf hone w T o.type hT hinf hzs hsz v xs ys hown ad c hy h63 hbytes
  unfold Oper.wp execOp
  simp only [ho, resolve, invoke, builtin, Sem.run_bind, Sem.run_pure, Result.andThen_ok, List.map_toArray, List.map_cons, List.map_nil, hs, hx, hr]
  exact hK _ _ (h v' w' h2 h3)
end
theorem any_iff_mem (l : List ByteArray) (s : ByteArray) : (l.any fun x => decide (x = s)) = true ↔ s ∈ l := by
  rw [List.any_eq_true]
  constructor
  · rintro ⟨x, hx, e⟩; rw [← of_decide_eq_true e]; exact hx
  · exact fun h => ⟨s, h, decide_eq_true rfl⟩
theorem any_no_mem {l : List ByteArray} {s : ByteArray} (h : s ∉ l) : (l.any fun x => decide (x = s)) = false := by
  cases e : (l.any fun x => decide (x = s)) with
  | false => rfl
  | true => exact absurd ((any_iff_mem l s).1 e) h
end Go.Proofs.YtafeaeaildfohaaGreatDoor
/- The reference's Recursive (for RingTexts, seat .ZD). -/
namespace Go.Proofs.YtafeaeaildfohaaGreatDoor
open Go.RowKit Go.Maps

def lenW : Value → Nat
  | .slice _ n _ => n
  | _ => 0
/-- Between two rules. -/
structure RSt (W : World) (l : List Rul) (wr : World) (i : Nat) (v : Value) (out : List ByteArray) : Prop where
  own : Owns tStr wr W.heap.size 9 v out
  up : RecUp l i out
  bl : Below W.heap.size W wr
theorem RSt.after {W W0 wr : World} {l : List Rul} {i j : Nat} {v sv nv : Value} {out seen next : List ByteArray} (h : RSt W l W0 i v out) (hm : BMem W0 wr sv nv seen next) (hu : RecUp l j out) : RSt W l wr j v out :=
  ⟨h.own.keeps hm.bl, hu, pure_trans h.bl hm.bl⟩
theorem Owns.low' {α : Type} {t : Ty α} {w : World} {B B' : Nat} {e : TypeId} {v : Value} {xs : List α} (h : Owns t w B e v xs) (hB : B' ≤ B) : Owns t w B' e v xs := by
  obtain ⟨css, h1, ⟨h2, h3⟩, h4, h5⟩ := h
  refine ⟨css, h1, ⟨h2, ?_⟩, h4, h5⟩
  rcases h3 with h3 | ⟨g, cap, cur, h3, hg, r⟩
  · exact .inl h3
  · exact .inr ⟨g, cap, cur, h3, Nat.le_trans hB hg, r⟩
theorem strSize9 : (Tryz.prog.info? 9).map (·.size) = some tStr.sz := by kernel_rfl

set_option maxRecDepth 100000 in
set_option maxHeartbeats 8000000 in
theorem refRecursive_any (l : List Rul) (v : Value) (W : World) (hv : tRuls.rv (mem W) [v] l) :
    Calls Tryz.prog 8 #[v] W (RecOut l W) := by
  have HP := Lib.hid (refProgram_any l v W hv)
  obtain ⟨a, cap, rfl, hlc, hm, hv⟩ := slice_form hv
  have hcap : cap ≤ 9223372036854775807 := by unfold maxLen at hm; exact hm
  have HV := Lib.hid (fun wr (hb : Below W.heap.size W wr) => tRuls.mono _ _ _ _ (below_mem hb) hv)
  clear hm hv
  go_enter Tryz.func8, Tryz.ntmps8
  go_wp2_with fail
  refine HP.out.mono ?_
  rintro e w1 ⟨rfl, hb1⟩
  have HB1 := Lib.hid hb1
  clear hb1 HP
  cases hp : validP l with
  | false =>
    have HPV := Lib.hid hp
    clear hp
    go_wp2
    go_ret2
    exact ⟨HB1.out, .inl ⟨HPV.out, rfl⟩⟩
  | true =>
  have HBD := Lib.hid (validP_body hp)
  have hl12 : l.length ≤ 12 := by unfold validP at hp; rw [Bool.and_eq_true] at hp; exact of_decide_eq_true hp.1
  have HPV := Lib.hid hp
  clear hp
  have HUL := Lib.hid (show ((pairsR l).map (·.2)).length ≤ 36 from by
    rw [List.length_map]
    have h1 := pairsR_len (l := l) HBD.out
    omega)
  have HS0 := Lib.hid (show RSt W l w1 0 (.slice none 0 0) [] from ⟨Owns.nil _ _ _ _, RecUp.start l, HB1.out⟩)
  go_wp2_with fail
  go_loopw [4, 5] (fun ov iv wr => ∃ (i : Nat) (out : List ByteArray), i ≤ l.length ∧ iv = .int .i64 i ∧ Hid (RSt W l wr i ov out)) (fun _ iv _ => l.length - (intOf iv).toNat)
  case atStart => exact ⟨0, [], by omega, rfl, HS0⟩
  case round =>
    clear HS0
    obtain ⟨i, out, hi, rfl, HS⟩ := hrel
    obtain ⟨oa, oc, rfl, -⟩ := HS.out.own.len
    have HOL := Lib.hid HS.out.up.le
    by_cases hlt : i < l.length
    · obtain ⟨b, o, bv0, rfl, ⟨q0, -, -, -⟩, hok0, -⟩ := ruls_at (HV.out W (Below.refl _ _)) hlt
      have c0 : wr.cell? ⟨b, o + i * 4, none⟩ = some (.string l[i].hd.n) := below_mem HS.out.bl _ _ _ q0
      have HSK := Lib.hid (fun (w' : World) (sv nv : Value) (seen next : List ByteArray) (hm : BMem wr w' sv nv seen next) h => HS.out.after hm (HS.out.up.skip hlt h))
      have HAD := Lib.hid (fun (n : ByteArray) (k : Nat) hn hp hno hk h1 h2 => HS.out.up.add (n := n) (k := k) hlt hn hp hno hk h1 h2)
      have HNM := Lib.hid (show l[i].hd.n.size ≤ maxLen from hok0.1)
      clear q0 hok0
      obtain ⟨s, hs⟩ : ∃ s, s = l[i].hd.n := ⟨_, rfl⟩
      rw [← hs] at HSK HAD HNM c0
      have HSN := Lib.hid hs.symm
      clear hs
      have HM0 := Lib.hid (BMem.start wr s HNM.out)
      go_upto_region 10 with fail
      clear c0
      obtain ⟨W0, hW0⟩ : ∃ W0, W0 = wr := ⟨_, rfl⟩
      rw [← hW0] at HS HSK HM0 ⊢
      have HW0 := Lib.hid (show Below W.heap.size W W0 from HS.out.bl)
      clear hW0
      go_loopw [7, 8] (fun sv nv wr => ∃ (seen next : List ByteArray) (sa an : Option Addr) (cs cn : Nat), sv = .slice sa seen.length cs ∧ nv = .slice an next.length cn ∧ Hid (BMem W0 wr sv nv seen next) ∧ Hid (Wide l s seen next) ∧ Hid (BCnt ((pairsR l).map (·.2)) (2 * (36 - lenW sv) + lenW nv) seen next)) (fun sv nv _ => 2 * (36 - lenW sv) + lenW nv)
      case atStart => exact ⟨[], [s], _, _, _, _, rfl, rfl, HM0, Lib.hid (Wide.start l s), Lib.hid (BCnt.start HUL.out s)⟩
      case round =>
        clear HM0
        obtain ⟨seen, next, sa, an, cs, cn, rfl, rfl, HM, HWD, HC⟩ := hrel
        cases next with
        | cons now next =>
          obtain ⟨g, off, cap2, cs2, heq, -, -, ⟨rfl, hsz⟩, hat⟩ := HM.out.on.at (k := 0) (by simp)
          obtain ⟨v', hsl, hown', hblk', an2, cn2, rfl⟩ := HM.out.on.tail (P := Tryz.prog) (T := 30) Tryz.underlying30 strSize9
          cases heq
          have n0 : wr.cell? ⟨g, off, none⟩ = some (.string now) := by
            have h := hat 0 _ rfl
            simpa [mem] using h
          have HM2 := Lib.hid (HM.out.same hown' hblk')
          have HI := Lib.hid HWD.out.enter
          have HC2 := Lib.hid HC.out.tail
          have hl1 : (0 : Int) < ((now :: next).length : Int) := by rw [List.length_cons]; omega
          have HMS := Lib.hid (show 2 * (36 - seen.length) + next.length < 2 * (36 - lenW (.slice sa seen.length cs)) + lenW (.slice (some ⟨g, off, none⟩) (now :: next).length cn) from by simp only [lenW, List.length_cons]; omega)
          clear HM HWD HC hat hown' hblk' hsz
          rw [List.length_cons] at hsl hl1 ⊢
          go_wp2_with fail
          clear hsl n0 hl1
          go_loopw [7, 8, 10] (fun sv nv kv wr => ∃ (k : Nat) (seen2 next2 : List ByteArray) (sa an : Option Addr) (cs cn : Nat), k ≤ l.length ∧ kv = .int .i64 k ∧ sv = .slice sa seen2.length cs ∧ nv = .slice an next2.length cn ∧ Hid (BMem W0 wr sv nv seen2 next2) ∧ Hid (WideIn l s now (succN (l.take k) now) seen2 next2) ∧ Hid (BCnt ((pairsR l).map (·.2)) (2 * (36 - seen.length) + next.length) seen2 next2)) (fun _ _ kv _ => l.length - (intOf kv).toNat)
          case atStart => exact ⟨0, seen, next, _, _, _, _, by omega, rfl, rfl, rfl, HM2, HI, HC2⟩
          case round =>
            clear HM2 HI HC2
            obtain ⟨k, seen2, next2, sa, an, cs, cn, hk, rfl, rfl, rfl, HM, HI, HC⟩ := hrel
            by_cases hlt2 : k < l.length
            · have HBW := Lib.hid (pure_trans HW0.out HM.out.bl)
              obtain ⟨b', o', bv, heq, ⟨q0, -, -, q3⟩, -, hbd⟩ := ruls_at (HV.out W (Below.refl _ _)) hlt2
              cases heq
              have c0 : wr.cell? ⟨b, o + k * 4, none⟩ = some (.string l[k].hd.n) := below_mem HBW.out _ _ _ q0
              have HTK := Lib.hid (show succN (l.take (k + 1)) now = succN (l.take k) now ++ (if l[k].hd.n = now then l[k].bd.map (·.n) else []) from by
                rw [List.take_succ_eq_append_getElem hlt2, succN_append]
                simp [succN])
              by_cases hnm : l[k].hd.n = now
              · have hne : (l[k].hd.n.toList == now.toList) = true := by rw [strEqB, decide_eq_true hnm]
                have HTK2 := Lib.hid (show succN (l.take (k + 1)) now = succN (l.take k) now ++ l[k].bd.map (·.n) from by rw [HTK.out, if_pos hnm])
                have HIN := Lib.hid (show ∀ a ∈ l[k].bd, a.n ∈ succN l now from fun a ha => succN_mem.2 ⟨l[k], List.getElem_mem hlt2, hnm, a, ha, rfl⟩)
                have HB3 := Lib.hid (HBD.out l[k] (List.getElem_mem hlt2))
                have HQ3 := Lib.hid (show ∀ w', Below W.heap.size W w' → w'.cell? ⟨b, o + k * 4 + 3, none⟩ = some bv from fun w' hb => below_mem hb _ _ _ q3)
                clear q0 q3 hnm HTK
                obtain ⟨abv, cb, rfl, -, hcb0, hbd⟩ := slice_form hbd
                have hcb : cb ≤ 9223372036854775807 := by unfold maxLen at hcb0; exact hcb0
                have HBDY := Lib.hid hbd
                clear hbd hcb0
                generalize l[k] = r at *
                obtain ⟨⟨rn, ra, rb⟩, bd⟩ := r
                simp only at c0 hne HTK2 HIN HB3 HQ3 HBDY
                go_wp2_with fail
                clear c0 hne
                go_loopw [7, 8, 11] (fun sv nv mv wr => ∃ (m : Nat) (seen3 next3 : List ByteArray) (sa an : Option Addr) (cs cn : Nat), m ≤ bd.length ∧ mv = .int .i64 m ∧ sv = .slice sa seen3.length cs ∧ nv = .slice an next3.length cn ∧ Hid (BMem W0 wr sv nv seen3 next3) ∧ Hid (WideIn l s now (succN (l.take k) now ++ (bd.take m).map (·.n)) seen3 next3) ∧ Hid (BCnt ((pairsR l).map (·.2)) (2 * (36 - seen.length) + next.length) seen3 next3)) (fun _ _ mv _ => bd.length - (intOf mv).toNat)
                case atStart => exact ⟨0, seen2, next2, _, _, _, _, by omega, rfl, rfl, rfl, HM, Lib.hid (by rw [List.take_zero, List.map_nil, List.append_nil]; exact HI.out), HC⟩
                case round =>
                  clear HM HI HC HBW
                  obtain ⟨m, seen3, next3, sa, an, cs, cn, hmk, rfl, rfl, rfl, HM, HI, HC⟩ := hrel
                  have HBW := Lib.hid (pure_trans HW0.out HM.out.bl)
                  have c3 : wr.cell? ⟨b, o + k * 4 + 3, none⟩ = some (.slice abv bd.length cb) := HQ3.out _ HBW.out
                  have hb3 := HB3.out
                  by_cases hlt3 : m < bd.length
                  · obtain ⟨x, y, rfl, ⟨t0, -, -⟩, hoka⟩ := fcts_at HBDY.out hlt3
                    have HP0 := Lib.hid (fun (w' : World) (hb : Below W.heap.size W w') => (show w'.cell? ⟨x, y + m * 3, none⟩ = some (.string bd[m].n) from below_mem hb _ _ _ t0))
                    have HTM := Lib.hid (show (bd.take (m + 1)).map (·.n) = (bd.take m).map (·.n) ++ [bd[m].n] from by
                      rw [List.take_succ_eq_append_getElem hlt3, List.map_append]; rfl)
                    have HIN2 := Lib.hid (HIN.out bd[m] (List.getElem_mem hlt3))
                    have HSZ := Lib.hid (show bd[m].n.size ≤ maxLen from hoka.1)
                    clear t0 hoka
                    generalize bd[m].n = z at *
                    have p0 : wr.cell? ⟨x, y + m * 3, none⟩ = some (.string z) := HP0.out _ HBW.out
                    have HHAS := Lib.hid (refHas_any seen3 z (.slice sa seen3.length cs) wr HM.out.os.rv')
                    go_wp2_with fail
                    refine HHAS.out.mono ?_
                    rintro e w2 ⟨rfl, rfl⟩
                    clear HHAS
                    by_cases hin : z ∈ seen3
                    · rw [(any_iff_mem seen3 z).2 hin]
                      have HI2 := Lib.hid (show WideIn l s now (succN (l.take k) now ++ (bd.take (m + 1)).map (·.n)) seen3 next3 from by
                        rw [HTM.out, ← List.append_assoc]; exact HI.out.skip hin)
                      clear hin HI
                      go_wp2_with fail
                      go_roundw
                      case rel => exact ⟨m + 1, seen3, next3, _, _, _, _, by omega, by go_num, rfl, rfl, HM, HI2, HC⟩
                      case measure => simp [intOf]; omega
                    · rw [any_no_mem hin]
                      have HI2 := Lib.hid (show WideIn l s now (succN (l.take k) now ++ (bd.take (m + 1)).map (·.n)) (seen3 ++ [z]) (next3 ++ [z]) from by
                        rw [HTM.out, ← List.append_assoc]; exact HI.out.add HIN2.out)
                      have HC2 := Lib.hid (HC.out.add (succN_sub HIN2.out) hin)
                      have HSL := Lib.hid (show seen3.length ≤ 36 ∧ next3.length ≤ 37 from by have := HC.out.cnt; have := HC.out.len; omega)
                      clear hin HI HC
                      have HMA := Lib.hid (HM.out.keeps (boxB wr (.cells #[.string z] 9)))
                      have HBX := Lib.hid (boxB wr)
                      have hzs := HSZ.out
                      unfold maxLen at hzs
                      go_wp2_with (at_builtin; refine wpList_append_one rfl _ _ 30 rfl tStr Tryz.underlying30 Tryz.infoStr2 rfl (by decide) W0.heap.size _ seen3 rfl HMA.out.os _ _ z rfl [.string z] ?b1 ⟨rfl, HSZ.out⟩ ?b2 ?b3 ?b4 ?b5 ?_)
                      case b1 => exact fun j u hj => by match j, hj with | 0, hj => simp at hj; subst hj; simp [mem]
                      case b2 => intro x hx; simp at hx; subst hx; rfl
                      case b3 => have := HSL.out; unfold maxLen; omega
                      case b4 => have := HSL.out; omega
                      case b5 => exact HMA.out.bl.size
                      intro v4 w4 own4 hgrow4 hblk4
                      have HM4 := Lib.hid (HMA.out.grow1 own4 hgrow4 (hblk4.imp id (fun h k hk => by have := h k hk; rw [World.size_alloc]; exact this)))
                      obtain ⟨sa4, cs4, e4, -⟩ := own4.len
                      rw [List.length_append] at e4
                      subst e4
                      clear own4 hgrow4 hblk4 HMA HM p0 c3
                      have HBW4 := Lib.hid (pure_trans HW0.out HM4.out.bl)
                      have p0 : w4.cell? ⟨x, y + m * 3, none⟩ = some (.string z) := HP0.out _ HBW4.out
                      have c3 : w4.cell? ⟨b, o + k * 4 + 3, none⟩ = some (.slice (some ⟨x, y, none⟩) bd.length cb) := HQ3.out _ HBW4.out
                      have HMB := Lib.hid (HM4.out.keeps (boxB w4 (.cells #[.string z] 9)))
                      go_wp2_with (at_builtin; refine wpList_append_o2 rfl _ _ 30 rfl tStr tStr_flat tStr_one1 Tryz.underlying30 Tryz.infoStr2 rfl (by decide) _ next3 [z] rfl HMB.out.on _ _ _ rfl rfl ?d1 ?d2 ?d3 ?_)
                      case d1 => exact slice_one (cs := [.string z]) (fun j u hj => by match j, hj with | 0, hj => simp at hj; subst hj; exact mem_cells (heap_alloc_new w4 (.cells #[.string z] 9)) 0) ⟨rfl, HSZ.out⟩
                      case d2 => have := HSL.out; unfold maxLen; simp; omega
                      case d3 => have := HSL.out; simp; omega
                      intro v5 w5 own5 happ5
                      have HM5 := Lib.hid (HMB.out.grow2 own5 happ5.grown happ5.block)
                      obtain ⟨an5, cn5, e5, -, -⟩ := own5.form
                      rw [List.length_append] at e5
                      subst e5
                      clear own5 happ5 HMB HM4 p0 c3
                      go_wp2_with fail
                      go_roundw
                      case rel => exact ⟨m + 1, seen3 ++ [z], next3 ++ [z], sa4, an5, cs4, cn5, by omega, by go_num, by simp, by simp, HM5, HI2, HC2⟩
                      case measure => simp [intOf]; omega
                  · obtain rfl : m = bd.length := by omega
                    have HI2 := Lib.hid (show WideIn l s now (succN (l.take (k + 1)) now) seen3 next3 from by
                      rw [HTK2.out]
                      have := HI.out
                      rwa [List.take_length] at this)
                    clear HI
                    go_wp2_with fail
                    go_roundw
                    case rel => exact ⟨k + 1, seen3, next3, _, _, _, _, by omega, by go_num, rfl, rfl, HM, HI2, HC⟩
                    case measure => simp [intOf]; omega
              · have hne : (l[k].hd.n.toList == now.toList) = false := by rw [strEqB, decide_eq_false hnm]
                have HI2 := Lib.hid (show WideIn l s now (succN (l.take (k + 1)) now) seen2 next2 from by
                  rw [HTK.out, if_neg hnm, List.append_nil]; exact HI.out)
                clear q0 q3 hnm HTK HI hbd
                generalize l[k] = r at *
                go_wp2_with fail
                go_roundw
                case rel => exact ⟨k + 1, seen2, next2, _, _, _, _, by omega, by go_num, rfl, rfl, HM, HI2, HC⟩
                case measure => simp [intOf]; omega
            · obtain rfl : k = l.length := by omega
              have HWD := Lib.hid (show Wide l s seen2 next2 from by
                have := HI.out
                rw [List.take_length] at this
                exact this.leave)
              have HMES := Lib.hid HC.out.mes
              have HC3 := Lib.hid (show BCnt ((pairsR l).map (·.2)) (2 * (36 - seen2.length) + next2.length) seen2 next2 from ⟨HC.out.cnt, HC.out.len, Nat.le_refl _⟩)
              clear HI HC
              go_wp2_with fail
              go_roundw
              case rel => exact ⟨seen2, next2, _, _, _, _, rfl, rfl, HM, HWD, HC3⟩
              case measure =>
                have h1 := HMS.out
                have h2 := HMES.out
                simp only [lenW] at h1 h2 ⊢
                omega
        | nil =>
          have HDN := Lib.hid HWD.out.done
          clear HWD HC
          have HHAS := Lib.hid (refHas_any seen s (.slice sa seen.length cs) wr HM.out.os.rv')
          have HHAS2 := Lib.hid (refHas_any out s (.slice oa out.length oc) wr (HS.out.own.keeps HM.out.bl).rv')
          rw [List.length_nil]
          go_wp2_with fail
          refine HHAS.out.mono ?_
          rintro e w2 ⟨rfl, rfl⟩
          clear HHAS
          by_cases hin : s ∈ seen
          rotate_left
          · rw [any_no_mem hin]
            have HST := Lib.hid (HSK.out _ _ _ _ _ HM.out (fun hp => absurd ((HDN.out s).2 hp) hin))
            go_wp2_with fail
            go_roundw
            case rel => exact ⟨i + 1, out, by omega, by go_num, HST⟩
            case measure => simp [intOf]; omega
          rw [(any_iff_mem seen s).2 hin]
          have HPP := Lib.hid ((HDN.out s).1 hin)
          clear hin
          go_wp2_with fail
          refine HHAS2.out.mono ?_
          rintro e w2 ⟨rfl, rfl⟩
          clear HHAS2
          by_cases hin2 : s ∈ out
          · rw [(any_iff_mem out s).2 hin2]
            have HST := Lib.hid (HSK.out _ _ _ _ _ HM.out (fun _ => hin2))
            clear hin2
            go_wp2_with fail
            go_roundw
            case rel => exact ⟨i + 1, out, by omega, by go_num, HST⟩
            case measure => simp [intOf]; omega
          rw [any_no_mem hin2]
          have HNO := Lib.hid hin2
          clear hin2
          have HOW := Lib.hid (HS.out.own.keeps HM.out.bl)
          have HBW := Lib.hid (pure_trans HW0.out HM.out.bl)
          clear HM HDN HSK
          obtain ⟨W1, hW1⟩ : ∃ W1, W1 = wr := ⟨_, rfl⟩
          rw [← hW1] at HOW HBW ⊢
          clear hW1
          go_wp2_with fail
          go_loopw [12] (fun kv wr => ∃ k : Nat, k ≤ out.length ∧ kv = .int .i64 k ∧ Hid (∀ j, (h : j < out.length) → k ≤ j → 0 < nameC out[j] s) ∧ Hid (Below W1.heap.size W1 wr)) (fun kv _ => (intOf kv).toNat)
          case atStart => exact ⟨out.length, Nat.le_refl _, rfl, Lib.hid (fun j h h' => absurd h (by omega)), Lib.hid (Below.refl _ _)⟩
          case round =>
            obtain ⟨k, hk, rfl, HT, HBK⟩ := hrel
            have HOR := Lib.hid (HOW.out.keeps HBK.out)
            have HBR := Lib.hid (pure_trans HBW.out HBK.out)
            cases k with
            | succ j =>
              have hj : j < out.length := by omega
              obtain ⟨g, off, rfl, q0, -⟩ := str_cell HOR.out.rv' hj
              have n0 : wr.cell? ⟨g, off + j, none⟩ = some (.string out[j]) := q0
              have hj0 : (0 : Int) ≤ (j : Int) := by omega
              have hjl : (j : Int) < (out.length : Int) := by omega
              have hw1 : IntKind.i64.wrap (j : Int) = (j : Int) := by have := HOL.out; simp (disch := omega) only [IntWalk.i64_in]
              have hw2 : IntKind.i64.wrap ((j : Int) + 1 - 1) = (j : Int) := by rw [Int.add_sub_cancel]; exact hw1
              have hpos : (0 : Int) < (j : Int) + 1 := by omega
              have HG := Lib.hid (bytesGtr_cmp out[j].toList s.toList)
              have HNX := Lib.hid (show 0 < nameC out[j] s → ∀ i, (h : i < out.length) → j ≤ i → 0 < nameC out[i] s from fun h0 i h h' => by
                by_cases e : i = j
                · subst e; exact h0
                · exact HT.out i h (by omega))
              have HLE := Lib.hid (show nameC out[j] s ≤ 0 → (0 < j + 1 → ∀ h : j + 1 - 1 < out.length, nameC out[j + 1 - 1] s ≤ 0) from fun h0 _ h => by simpa using h0)
              have HCE := Lib.hid (show nameC out[j] s = cmpBytes out[j].toList s.toList from rfl)
              rw [Int.natCast_succ]
              by_cases hc : 0 < nameC out[j] s
              · have HT2 := Lib.hid (HNX.out hc)
                have hb : (!(Op.bytesLess out[j].toList s.toList || out[j].toList == s.toList)) = true := by rw [HG.out]; exact decide_eq_true hc
                clear q0 HT HNX HLE HCE hc HG
                generalize out[j] = y at *
                obtain ⟨hb1, hb2⟩ : Op.bytesLess y.toList s.toList = false ∧ (y.toList == s.toList) = false := by simpa using hb
                clear hb
                go_wp2_with fail
                go_roundw
                case rel => exact ⟨j, by omega, by go_num, HT2, HBK⟩
                case measure => simp [intOf]
              · have HST := Lib.hid (HAD.out s (j + 1) rfl HPP.out HNO.out hk (HLE.out (by omega)) HT.out)
                have hb : (Op.bytesLess out[j].toList s.toList || out[j].toList == s.toList) = true := by
                  have := HG.out
                  rw [decide_eq_false (by rw [← HCE.out]; exact hc)] at this
                  cases h : (Op.bytesLess out[j].toList s.toList || out[j].toList == s.toList) with
                  | true => rfl
                  | false => rw [h] at this; cases this
                clear q0 HT HNX HLE HCE hc HG
                generalize out[j] = y at *
                obtain ⟨wz, hwz⟩ : ∃ wz, wz = wr := ⟨_, rfl⟩
                rw [← hwz] at HOR HBR n0 ⊢
                clear hwz
                have hoa := HOR.out.rv'
                obtain ⟨a1, c1, hlo, hlo2⟩ := cut_lo HOR.out.rv' hk (T := 30) Tryz.underlying30 strSize9
                obtain ⟨a2, c2, hhi, hhi2⟩ := cut_hi HOR.out.rv' hk (T := 30) Tryz.underlying30 strSize9
                have HLO := Lib.hid (fun (w' : World) (hb : Below wz.heap.size wz w') => tStrs.mono _ _ _ _ (below_mem hb) hlo2)
                have HHI := Lib.hid (fun (w' : World) (hb : Below wz.heap.size wz w') => tStrs.mono _ _ _ _ (below_mem hb) hhi2)
                have HHR := Lib.hid hhi
                have HTL := Lib.hid (show (out.take (j + 1)).length = j + 1 from by rw [List.length_take]; omega)
                have HDL := Lib.hid (show (out.drop (j + 1)).length = out.length - (j + 1) from List.length_drop ..)
                have HSZ := Lib.hid HNM.out
                clear hlo2 hhi2 hhi HOR
                rw [Int.natCast_succ] at hlo
                go_wp2_with (at_builtin; refine wpList_append_flat rfl _ _ 30 rfl tStr_flat tStr_one1 Tryz.underlying30 Tryz.infoStr2 rfl (by decide) wz.heap.size _ [] (out.take (j + 1)) rfl (own_lit0 tStr wz 9) _ _ _ rfl HTL.out.symm (HLO.out _ (boxB wz _)) ?a1 ?a2 (by simp) ?_)
                case a1 => have := HTL.out; have := HOL.out; unfold maxLen; first | omega | (simp; omega) | simp
                case a2 => have := HTL.out; have := HOL.out; first | omega | (simp; omega) | simp
                intro v6 w6 own6 hgrow6
                have HB6 := Lib.hid (show Below wz.heap.size wz w6 from (boxB wz _).grown hgrow6 (by simp) (fun k hk => by simp [Value.ownBlock] at hk; omega))
                have HO6 := Lib.hid (show Owns tStr w6 wz.heap.size 9 v6 (out.take (j + 1)) from own6)
                replace own6 := HO6.out
                have HS6 := Lib.hid HB6.out.size
                obtain ⟨a6, c6, e6, -⟩ := own6.len
                rw [HTL.out] at e6
                subst e6
                have hzs := HNM.out
                unfold maxLen at hzs
                clear own6 hgrow6 hlo
                go_wp2_with (at_builtin; refine wpList_append_one rfl _ _ 30 rfl tStr Tryz.underlying30 Tryz.infoStr2 rfl (by decide) wz.heap.size _ (out.take (j + 1)) rfl (HO6.out.alloc _) _ _ s rfl [.string s] ?b1 ⟨rfl, HSZ.out⟩ ?b2 ?b3 ?b4 ?b5 ?_)
                case b1 => exact fun j u hj => by match j, hj with | 0, hj => simp at hj; subst hj; simp [mem]
                case b2 => intro x hx; simp at hx; subst hx; rfl
                case b3 => have := HTL.out; have := HOL.out; unfold maxLen; omega
                case b4 => have := HTL.out; have := HOL.out; omega
                case b5 => have := HS6.out; simp; omega
                intro v7 w7 own7 hgrow7 _
                have HB7 := Lib.hid (show Below wz.heap.size wz w7 from (HB6.out.alloc HB6.out.size _).grown hgrow7 (by have := HS6.out; simp; omega) (fun k hk => ((HO6.out).lt k hk).1))
                obtain ⟨ql, hq⟩ : ∃ ql, out.take (j + 1) ++ [s] = ql := ⟨_, rfl⟩
                have HQ := Lib.hid hq
                have HQL := Lib.hid (show ql.length = j + 1 + 1 from by rw [← hq, List.length_append, HTL.out]; rfl)
                replace own7 : Owns tStr w7 wz.heap.size 9 v7 ql := by rw [← hq]; exact own7
                have HO7 := Lib.hid own7
                have HS7 := Lib.hid HB7.out.size
                obtain ⟨a7, c7, rfl, -⟩ := own7.len
                have hhi := HHR.out
                rw [Int.natCast_succ] at hhi
                clear own7 hgrow7 hq HO6 HHR
                go_wp2_with (at_builtin; refine wpList_append_flat rfl _ _ 30 rfl tStr_flat tStr_one1 Tryz.underlying30 Tryz.infoStr2 rfl (by decide) wz.heap.size _ ql (out.drop (j + 1)) rfl HO7.out _ _ _ rfl HDL.out.symm (HHI.out _ HB7.out) ?g1 ?g2 ?g3 ?_)
                case g1 => have := HDL.out; have := HQL.out; have := HOL.out; unfold maxLen; omega
                case g2 => have := HDL.out; have := HQL.out; have := HOL.out; omega
                case g3 => exact HS7.out
                intro v8 w8 own8 hgrow8
                have HB8 := Lib.hid (show Below wz.heap.size wz w8 from HB7.out.grown hgrow8 HS7.out (fun k hk => ((HO7.out).lt k hk).1))
                have HR8 := Lib.hid (show RSt W l w8 (i + 1) v8 (out.take (j + 1) ++ (s :: out.drop (j + 1))) from by
                  refine ⟨?_, HST.out, pure_trans HBR.out HB8.out⟩
                  have := own8.low' (B' := W.heap.size) HBR.out.size
                  rw [← HQ.out, List.append_assoc, List.singleton_append] at this
                  exact this)
                clear own8 hgrow8 HO7
                go_wp2_with fail
                go_roundw
                case rel => exact ⟨i + 1, _, by omega, by go_num, HR8⟩
                case measure => simp [intOf]; omega
            | zero =>
              have HST := Lib.hid (HAD.out s 0 rfl HPP.out HNO.out hk (fun h => absurd h (by omega)) HT.out)
              clear HT
              obtain ⟨wz, hwz⟩ : ∃ wz, wz = wr := ⟨_, rfl⟩
              rw [← hwz] at HOR HBR ⊢
              clear hwz
              obtain ⟨a1, c1, hlo, hlo2⟩ := cut_lo HOR.out.rv' hk (T := 30) Tryz.underlying30 strSize9
              obtain ⟨a2, c2, hhi, hhi2⟩ := cut_hi HOR.out.rv' hk (T := 30) Tryz.underlying30 strSize9
              have HLO := Lib.hid (fun (w' : World) (hb : Below wz.heap.size wz w') => tStrs.mono _ _ _ _ (below_mem hb) hlo2)
              have HHI := Lib.hid (fun (w' : World) (hb : Below wz.heap.size wz w') => tStrs.mono _ _ _ _ (below_mem hb) hhi2)
              have HHR := Lib.hid hhi
              have HTL := Lib.hid (show (out.take (0)).length = 0 from by rw [List.length_take]; omega)
              have HDL := Lib.hid (show (out.drop (0)).length = out.length - (0) from List.length_drop ..)
              have HSZ := Lib.hid HNM.out
              clear hlo2 hhi2 hhi HOR
              have hlo0 : ∀ w2, (Instr.slice 30 (.slice oa out.length oc) none (some (.int .i64 0)) none).run Tryz.prog w2 = .ok (.slice a1 0 c1) w2 := hlo
              clear hlo
              have hlo := hlo0
              clear hlo0
              go_wp2_with (at_builtin; refine wpList_append_flat rfl _ _ 30 rfl tStr_flat tStr_one1 Tryz.underlying30 Tryz.infoStr2 rfl (by decide) wz.heap.size _ [] (out.take (0)) rfl (own_lit0 tStr wz 9) _ _ _ rfl HTL.out.symm (HLO.out _ (boxB wz _)) ?a1 ?a2 (by simp) ?_)
              case a1 => have := HTL.out; have := HOL.out; unfold maxLen; first | omega | (simp; omega) | simp
              case a2 => have := HTL.out; have := HOL.out; first | omega | (simp; omega) | simp
              intro v6 w6 own6 hgrow6
              have HB6 := Lib.hid (show Below wz.heap.size wz w6 from (boxB wz _).grown hgrow6 (by simp) (fun k hk => by simp [Value.ownBlock] at hk; omega))
              have HO6 := Lib.hid (show Owns tStr w6 wz.heap.size 9 v6 (out.take (0)) from own6)
              replace own6 := HO6.out
              have HS6 := Lib.hid HB6.out.size
              obtain ⟨a6, c6, e6, -⟩ := own6.len
              rw [HTL.out] at e6
              subst e6
              have hzs := HNM.out
              unfold maxLen at hzs
              clear own6 hgrow6 hlo
              go_wp2_with (at_builtin; refine wpList_append_one rfl _ _ 30 rfl tStr Tryz.underlying30 Tryz.infoStr2 rfl (by decide) wz.heap.size _ (out.take (0)) rfl (HO6.out.alloc _) _ _ s rfl [.string s] ?b1 ⟨rfl, HSZ.out⟩ ?b2 ?b3 ?b4 ?b5 ?_)
              case b1 => exact fun j u hj => by match j, hj with | 0, hj => simp at hj; subst hj; simp [mem]
              case b2 => intro x hx; simp at hx; subst hx; rfl
              case b3 => have := HTL.out; have := HOL.out; unfold maxLen; omega
              case b4 => have := HTL.out; have := HOL.out; omega
              case b5 => have := HS6.out; simp; omega
              intro v7 w7 own7 hgrow7 _
              have HB7 := Lib.hid (show Below wz.heap.size wz w7 from (HB6.out.alloc HB6.out.size _).grown hgrow7 (by have := HS6.out; simp; omega) (fun k hk => ((HO6.out).lt k hk).1))
              obtain ⟨ql, hq⟩ : ∃ ql, out.take (0) ++ [s] = ql := ⟨_, rfl⟩
              have HQ := Lib.hid hq
              have HQL := Lib.hid (show ql.length = 0 + 1 from by rw [← hq, List.length_append, HTL.out]; rfl)
              replace own7 : Owns tStr w7 wz.heap.size 9 v7 ql := by rw [← hq]; exact own7
              have HO7 := Lib.hid own7
              have HS7 := Lib.hid HB7.out.size
              obtain ⟨a7, c7, rfl, -⟩ := own7.len
              have hhi := HHR.out
              have hhi0 : ∀ w2, (Instr.slice 30 (.slice oa out.length oc) (some (.int .i64 0)) none none).run Tryz.prog w2 = .ok (.slice a2 (out.length - 0) c2) w2 := hhi
              clear hhi
              clear own7 hgrow7 hq HO6 HHR
              go_wp2_with (at_builtin; refine wpList_append_flat rfl _ _ 30 rfl tStr_flat tStr_one1 Tryz.underlying30 Tryz.infoStr2 rfl (by decide) wz.heap.size _ ql (out.drop (0)) rfl HO7.out _ _ _ rfl HDL.out.symm (HHI.out _ HB7.out) ?g1 ?g2 ?g3 ?_)
              case g1 => have := HDL.out; have := HQL.out; have := HOL.out; unfold maxLen; omega
              case g2 => have := HDL.out; have := HQL.out; have := HOL.out; omega
              case g3 => exact HS7.out
              intro v8 w8 own8 hgrow8
              have HB8 := Lib.hid (show Below wz.heap.size wz w8 from HB7.out.grown hgrow8 HS7.out (fun k hk => ((HO7.out).lt k hk).1))
              have HR8 := Lib.hid (show RSt W l w8 (i + 1) v8 (out.take (0) ++ (s :: out.drop (0))) from by
                refine ⟨?_, HST.out, pure_trans HBR.out HB8.out⟩
                have := own8.low' (B' := W.heap.size) HBR.out.size
                rw [← HQ.out, List.append_assoc, List.singleton_append] at this
                exact this)
              clear own8 hgrow8 HO7
              go_wp2_with fail
              go_roundw
              case rel => exact ⟨i + 1, _, by omega, by go_num, HR8⟩
              case measure => simp [intOf]; omega
    · obtain rfl : i = l.length := by omega
      have HRA := Lib.hid (show RecOut l W (.returned (.tuple #[.slice oa out.length oc, .int .i64 0])) wr from ⟨HS.out.bl, .inr ⟨HPV.out, out, _, HS.out.up.ans, rfl, HS.out.own.rv'⟩⟩)
      clear HS
      go_wp2
      go_ret2
      exact HRA.out
end Go.Proofs.YtafeaeaildfohaaGreatDoor
/- RingTexts: the law's walk (seat .ZD). -/
namespace Go.Proofs.YtafeaeaildfohaaGreatDoor
open Go.RowKit Go.Maps

theorem progL_ge (l : List Rul) : l.length ≤ (progL l).length := by
  induction l with
  | nil => simp
  | cons r l ih => rw [progL_cons]; simp; omega
theorem fmtL_back {l : List Rul} {s : ByteArray} (h : bl s = fmtL l) : s.size ≤ 65536 ∧ (s.size ≠ 0 → parsL s.size (bl s) [] = (some l, 0)) := by
  have hz : (bl s).length = s.size := rfl
  unfold fmtL at h
  split at h
  · next hv =>
    have hv2 := hv
    unfold validP at hv2
    rw [Bool.and_eq_true] at hv2
    have h12 : l.length ≤ 12 := of_decide_eq_true hv2.1
    have hall : ∀ r ∈ l, validR r = true := validP_atoms hv
    have hl := progL_len l hall
    have hg := progL_ge l
    rw [h] at hz
    refine ⟨by omega, fun _ => ?_⟩
    rw [h, parsL_prog l [] _ hall (by simp; omega) (by omega), List.nil_append]
  · rw [h] at hz
    simp at hz
    exact ⟨by omega, fun e => absurd hz.symm e⟩
theorem ParsOut.form {t : ByteArray} {w1 w2 : World} {e : Ending} (h : ParsOut t w1 e w2) : ∃ (v : Value) (n c : Int), e = .returned (.tuple #[v, .int .i64 n, .int .i64 c]) := by
  rcases h.2 with ⟨h1, h⟩ | ⟨h1, rs, v1, h2, h, h3⟩ | ⟨h1, n, h2, h⟩
  · exact ⟨_, _, _, h⟩
  · exact ⟨_, _, _, h⟩
  · exact ⟨_, _, _, h⟩
theorem ParsOut.back {t : ByteArray} {w1 w2 : World} {e : Ending} {l : List Rul} (h : ParsOut t w1 e w2) (hs : t.size ≤ 65536) (hp : parsL t.size (bl t) [] = (some l, 0)) : ∃ v, e = .returned (.tuple #[v, .int .i64 0, .int .i64 0]) ∧ tRuls.rv (mem w2) [v] l := by
  rcases h.2 with ⟨h1, h⟩ | ⟨h1, rs, v1, h2, h, h3⟩ | ⟨h1, n, h2, h⟩
  · omega
  · rw [h2] at hp
    cases hp
    exact ⟨_, h, h3⟩
  · rw [h2] at hp; cases hp
/-- What both say, one value or two. -/
theorem ParsOut.both {t : ByteArray} {w1 w2 w3 w4 : World} {e1 e2 : Ending} (h : ParsOut t w1 e1 w2) (k : ParsOut t w3 e2 w4) (hb : Below w2.heap.size w2 w4) :
    ∃ (rs : List Rul) (v1 v2 : Value) (n c : Int), e1 = .returned (.tuple #[v1, .int .i64 n, .int .i64 c]) ∧ e2 = .returned (.tuple #[v2, .int .i64 n, .int .i64 c]) ∧ tRuls.rv (mem w4) [v1] rs ∧ tRuls.rv (mem w4) [v2] rs := by
  obtain ⟨-, h⟩ := h
  obtain ⟨-, k⟩ := k
  rcases h with ⟨h1, rfl⟩ | ⟨h1, rs, v1, h2, rfl, h3⟩ | ⟨h1, n, h2, rfl⟩
  · rcases k with ⟨k1, rfl⟩ | ⟨k1, -⟩ | ⟨k1, -⟩
    · exact ⟨[], _, _, _, _, rfl, rfl, slice_nil _ _, slice_nil _ _⟩
    · omega
    · omega
  · rcases k with ⟨k1, rfl⟩ | ⟨k1, rs', v2, k2, rfl, k3⟩ | ⟨k1, n, k2, rfl⟩
    · omega
    · rw [h2] at k2
      cases k2
      exact ⟨rs, _, _, _, _, rfl, rfl, tRuls.mono _ _ _ _ (below_mem hb) h3, k3⟩
    · rw [h2] at k2; cases k2
  · rcases k with ⟨k1, rfl⟩ | ⟨k1, rs', v2, k2, rfl, k3⟩ | ⟨k1, n', k2, rfl⟩
    · omega
    · rw [h2] at k2; cases k2
    · rw [h2] at k2
      cases k2
      exact ⟨[], _, _, _, _, rfl, rfl, slice_nil _ _, slice_nil _ _⟩
theorem RecOut.both {l : List Rul} {w1 w2 w3 w4 : World} {e1 e2 : Ending} (h : RecOut l w1 e1 w2) (k : RecOut l w3 e2 w4) (hb : Below w2.heap.size w2 w4) :
    ∃ (out : List ByteArray) (v1 v2 : Value) (c : Int), e1 = .returned (.tuple #[v1, .int .i64 c]) ∧ e2 = .returned (.tuple #[v2, .int .i64 c]) ∧ tStrs.rv (mem w4) [v1] out ∧ tStrs.rv (mem w4) [v2] out := by
  obtain ⟨-, h⟩ := h
  obtain ⟨-, k⟩ := k
  rcases h with ⟨h1, rfl⟩ | ⟨h1, out, v1, h2, rfl, h3⟩
  · rcases k with ⟨k1, rfl⟩ | ⟨k1, -⟩
    · exact ⟨[], _, _, _, rfl, rfl, slice_nil _ _, slice_nil _ _⟩
    · rw [h1] at k1; cases k1
  · rcases k with ⟨k1, rfl⟩ | ⟨k1, out', v2, k2, rfl, k3⟩
    · rw [h1] at k1; cases k1
    · obtain rfl := h2.unique k2
      exact ⟨out, _, _, _, rfl, rfl, tStrs.mono _ _ _ _ (below_mem hb) h3, k3⟩
set_option maxRecDepth 100000 in
set_option maxHeartbeats 8000000 in
theorem ringTexts_any (l : List Rul) (t : ByteArray) (v : Value) (W : World) (hv : tRuls.rv (mem W) [v] l) (m : Int) (hm : W.cell? ⟨0, 0, none⟩ = some (.int .i64 m)) :
    Calls Tryz.prog 3 #[v, .string t] W fun e w' => e = .returned (.bool true) ∧ Below W.heap.size W w' := by
  obtain ⟨a, cap, rfl, hlc, hcm, hv⟩ := slice_form hv
  have hcap : cap ≤ 9223372036854775807 := by unfold maxLen at hcm; exact hcm
  have HV := Lib.hid (fun wr (hb : Below W.heap.size W wr) => tRuls.mono _ _ _ _ (below_mem hb) hv)
  have HMX := Lib.hid (fun wr (hb : Below W.heap.size W wr) => (show wr.cell? ⟨0, 0, none⟩ = some (.int .i64 m) from below_mem hb _ _ _ hm))
  clear hcm hv hm
  by_cases h1 : 131072 < t.size
  · have h1i : (131072 : Int) < (t.size : Int) := by omega
    go_enter Tryz.func3, Tryz.ntmps3
    go_wp2_with fail
    refine (awake_any W).mono ?_
    rintro e w1 ⟨rfl, hbw⟩
    have HBZ := Lib.hid hbw
    clear hbw
    go_wp2
    go_ret
    exact ⟨rfl, HBZ.out⟩
  have h1i : ¬ ((131072 : Int) < (t.size : Int)) := by omega
  by_cases h2 : 20 < l.length
  · have h2i : (20 : Int) < (l.length : Int) := by omega
    go_enter Tryz.func3, Tryz.ntmps3
    go_wp2_with fail
    refine (awake_any W).mono ?_
    rintro e w1 ⟨rfl, hbw⟩
    have HBZ := Lib.hid hbw
    clear hbw
    go_wp2
    go_ret
    exact ⟨rfl, HBZ.out⟩
  have h2i : ¬ ((20 : Int) < (l.length : Int)) := by omega
  have HT := Lib.hid (show t.size ≤ 200000 from by omega)
  go_enter Tryz.func3, Tryz.ntmps3
  go_wp2_with fail
  go_loopw [5] (fun iv wr => ∃ k : Nat, k ≤ l.length ∧ iv = .int .i64 k ∧ Hid (Below W.heap.size W wr)) (fun iv _ => l.length - (intOf iv).toNat)
  case atStart => exact ⟨0, by omega, rfl, Lib.hid (Below.refl _ _)⟩
  case round =>
    obtain ⟨k, hk, rfl, HB⟩ := hrel
    by_cases hlt : k < l.length
    · obtain ⟨b, o, bv, rfl, ⟨-, -, -, q3⟩, -, hbd⟩ := ruls_at (HV.out _ HB.out) hlt
      have c3 : wr.cell? ⟨b, o + k * 4 + 3, none⟩ = some bv := q3
      obtain ⟨abv, cb, rfl, -, hcb0, -⟩ := slice_form hbd
      have hcb : cb ≤ 9223372036854775807 := by unfold maxLen at hcb0; exact hcb0
      clear q3 hbd hcb0
      generalize l[k].bd.length = n at *
      by_cases h10 : 10 < n
      · have h10i : (10 : Int) < (n : Int) := by omega
        go_wp2_with fail
        refine (awake_any wr).mono ?_
        rintro e w1 ⟨rfl, hbw⟩
        have HBZ := Lib.hid (pure_trans HB.out hbw)
        clear hbw
        go_wp2
        go_ret
        exact ⟨rfl, HBZ.out⟩
      · have h10i : ¬ ((10 : Int) < (n : Int)) := by omega
        go_wp2_with fail
        go_roundw
        case rel => exact ⟨k + 1, by omega, by go_num, HB⟩
        case measure => simp [intOf]; omega
    · obtain rfl : k = l.length := by omega
      have HF := Lib.hid (ringFormat_any l (.slice a l.length cap) wr (HV.out _ HB.out))
      go_wp2_with fail
      refine HF.out.mono ?_
      rintro e w1 ⟨s, rfl, hs, hb1⟩
      have HB1 := Lib.hid (pure_trans HB.out hb1)
      have HS := Lib.hid hs
      clear hs hb1 HF HB
      have HF := Lib.hid (refFormat_any l (.slice a l.length cap) w1 (HV.out _ HB1.out))
      go_wp2_with fail
      refine HF.out.mono ?_
      rintro e w2 ⟨s', rfl, hs', hb2⟩
      obtain rfl : s' = s := bl_inj (hs'.trans HS.out.symm)
      have HB2 := Lib.hid (pure_trans HB1.out hb2)
      clear hs' hb2 HF HB1
      have HRC := Lib.hid (ringRecursive_any l (.slice a l.length cap) w2 (HV.out _ HB2.out))
      go_wp2_with fail
      refine HRC.out.mono ?_
      intro e1 w3 hrec
      have HB3 := Lib.hid (pure_trans HB2.out hrec.1)
      have HRA := Lib.hid hrec
      clear HRC HB2
      obtain ⟨v7, e7, rfl⟩ : ∃ v7 c7, e1 = .returned (.tuple #[v7, .int .i64 c7]) := by
        rcases hrec.2 with ⟨-, h⟩ | ⟨-, out, ov, -, h, -⟩
        · exact ⟨_, _, h⟩
        · exact ⟨_, _, h⟩
      clear hrec
      have HRC := Lib.hid (refRecursive_any l (.slice a l.length cap) w3 (HV.out _ HB3.out))
      go_wp2_with fail
      refine HRC.out.mono ?_
      intro e2 w4 hrec
      have HB4 := Lib.hid (pure_trans HB3.out hrec.1)
      obtain ⟨out, v1, v2, c, h1e, rfl, hr1, hr2⟩ := HRA.out.both hrec hrec.1
      cases h1e
      have HSM := Lib.hid (refSameStrs_any out v7 v2 w4 hr1 hr2)
      clear hr1 hr2 hrec HRA HRC HB3
      go_wp2_with fail
      refine HSM.out.mono ?_
      rintro e w5 ⟨rfl, hb5⟩
      have HB5 := Lib.hid (pure_trans HB4.out hb5)
      clear HSM HB4 hb5
      have HPA := Lib.hid (ringParse_any s' w5 (by have := (fmtL_back HS.out).1; omega) m (HMX.out _ HB5.out))
      go_wp2_with fail
      refine HPA.out.mono ?_
      intro e1 w6 hp1
      have HBK := Lib.hid (fmtL_back HS.out)
      by_cases hz : s'.size = 0
      · have HB6 := Lib.hid (pure_trans HB5.out hp1.1)
        obtain ⟨v0, n0, c0, rfl⟩ := hp1.form
        obtain rfl : s' = ⟨#[]⟩ := bl_inj (List.length_eq_zero_iff.1 hz)
        clear hp1 HPA hz HB5
        have HQA := Lib.hid (ringParse_any t w6 HT.out m (HMX.out _ HB6.out))
        go_wp2_with fail
        refine HQA.out.mono ?_
        intro e3 w7 hq
        have HB7 := Lib.hid (pure_trans HB6.out hq.1)
        obtain ⟨v11, n12, c8, rfl⟩ := hq.form
        have HQ := Lib.hid hq
        clear hq HQA HB6
        have HRA := Lib.hid (refParse_any t w7 HT.out)
        go_wp2_with fail
        refine HRA.out.mono ?_
        intro e4 w8 hq2
        obtain ⟨rs, va, vb, n9, c9, he1, rfl, hr1, hr2⟩ := HQ.out.both hq2 hq2.1
        cases he1
        have HSM := Lib.hid (refSameRules_any rs v11 vb w8 hr1 hr2)
        have HB8 := Lib.hid (pure_trans HB7.out hq2.1)
        clear hq2 hr1 hr2 HQ HRA
        go_wp2_with fail
        refine HSM.out.mono ?_
        rintro e w9 ⟨rfl, hb9⟩
        have HB9 := Lib.hid (pure_trans HB8.out hb9)
        clear HSM hb9
        go_wp2_with fail
        refine (awake_any w9).mono ?_
        rintro e wz ⟨rfl, hbz⟩
        have HBZ := Lib.hid (pure_trans HB9.out hbz)
        clear hbz
        go_wp2
        go_ret
        exact ⟨rfl, HBZ.out⟩
      · obtain ⟨v0, rfl, hr0⟩ := hp1.back HBK.out.1 (HBK.out.2 hz)
        have HB6b := Lib.hid (pure_trans HB5.out hp1.1)
        have HSR := Lib.hid (refSameRules_any l v0 (.slice a l.length cap) w6 hr0 (HV.out _ HB6b.out))
        have hne : (s'.toList == []) = false := by
          rw [beq_eq_false_iff_ne]
          intro e
          apply hz
          have h0 := congrArg List.length e
          rw [ByteArray.toList_eq] at h0
          show s'.data.size = 0
          simpa using h0
        clear hp1 HPA hz HB5 hr0
        go_wp2_with fail
        refine HSR.out.mono ?_
        rintro e w6b ⟨rfl, hbx⟩
        have HB6 := Lib.hid (pure_trans HB6b.out hbx)
        clear hbx HSR HB6b
        generalize w6b = w6 at *
        have HQA := Lib.hid (ringParse_any t w6 HT.out m (HMX.out _ HB6.out))
        go_wp2_with fail
        refine HQA.out.mono ?_
        intro e3 w7 hq
        have HB7 := Lib.hid (pure_trans HB6.out hq.1)
        obtain ⟨v11, n12, c8, rfl⟩ := hq.form
        have HQ := Lib.hid hq
        clear hq HQA HB6
        have HRA := Lib.hid (refParse_any t w7 HT.out)
        go_wp2_with fail
        refine HRA.out.mono ?_
        intro e4 w8 hq2
        obtain ⟨rs, va, vb, n9, c9, he1, rfl, hr1, hr2⟩ := HQ.out.both hq2 hq2.1
        cases he1
        have HSM := Lib.hid (refSameRules_any rs v11 vb w8 hr1 hr2)
        have HB8 := Lib.hid (pure_trans HB7.out hq2.1)
        clear hq2 hr1 hr2 HQ HRA
        go_wp2_with fail
        refine HSM.out.mono ?_
        rintro e w9 ⟨rfl, hb9⟩
        have HB9 := Lib.hid (pure_trans HB8.out hb9)
        clear HSM hb9
        go_wp2_with fail
        refine (awake_any w9).mono ?_
        rintro e wz ⟨rfl, hbz⟩
        have HBZ := Lib.hid (pure_trans HB9.out hbz)
        clear hbz
        go_wp2
        go_ret
        exact ⟨rfl, HBZ.out⟩
theorem ringTextsW_any (l : List Rul) (t : ByteArray) (v : Value) (W : World) (hv : tRuls.rv (mem W) [v] l) (_ : t.size ≤ maxLen) (m : Int) (hm : W.cell? ⟨0, 0, none⟩ = some (.int .i64 m)) :
    Calls Tryz.prog 3 #[v, .string t] W fun e w' => e = .returned (.bool true) ∧ Below W.heap.size W w' := ringTexts_any l t v W hv m hm
theorem maxOf {W : World} (h : W.ShapedOpen Tryz.prog) : ∃ m : Int, W.cell? ⟨0, 0, none⟩ = some (.int .i64 m) :=
  Go.Proofs.cell_of_shapedOpen_int (zero := #[.int .i64 0]) (t := 3) h (of_decide_eq_true (by kernel_rfl)) (by kernel_rfl) rfl (by kernel_rfl) (by kernel_rfl) Tryz.underlying3
end Go.Proofs.YtafeaeaildfohaaGreatDoor
/- A witness for a row that lists great tables: the world is laid by World.laidAll. No program in sight. -/
namespace Go.Proofs.YtafeaeaildfohaaGreatDoor
theorem witness_row_zip {H : Type} {enc : TypeId × Value → H} {C : Checked} {os : Os} {f : FuncId} {fn : Func} {s : OpenSpec} {conds : List PathCond} {apart : Bool} {laid : List (String × DataW Unit)} (modest : Bool) (w0 : World) (args : Array Value) (hos : w0.os = os)
    (hv : (w0.forCall (fun _ _ => 0) ⟨#[], args, []⟩).variablesZipB C.prog = true)
    (hr : ((w0.forCall (fun _ _ => 0) ⟨#[], args, []⟩).heap.toList.drop C.prog.globals.size).take ((begin C.prog (fun _ _ => 0) default).world.heap.size - C.prog.globals.size) =
      (begin C.prog (fun _ _ => 0) default).world.heap.toList.drop C.prog.globals.size)
    (hok : Input.okWideB C.prog (w0.forCall (fun _ _ => 0) ⟨#[], args, []⟩) f ⟨#[], args, []⟩ = true)
    (hrow : s.preRow enc C.prog fn conds apart laid (w0.forCall (fun _ _ => 0) ⟨#[], args, []⟩).memory args) :
    ∃ (w : World) (tape : Tape) (i : Input), w.os = os ∧ (w.forCall tape i).Shaped C.prog ∧ i.vars = [] ∧ Input.okWide C.prog (w.forCall tape i) .any w.heap.size f i ∧
      s.preRow enc C.prog fn conds apart laid (w.forCall tape i).memory i.args ∧ ({ modest := modest } : Assume).holds C.prog (lone (Frame.enter C.prog f i.args .normal) [] (w.forCall tape i)) :=
  ⟨w0, fun _ _ => 0, ⟨#[], args, []⟩, hos, World.shaped_of_ZipB hv hr, (Input.okWide_of_okWideB (base := 0) hok).1, (Input.okWide_of_okWideB hok).2, hrow, by
    simp only [Assume.holds]
    exact ⟨by simp, by simp, fun _ => Modest.zero, by simp, by simp⟩⟩
end Go.Proofs.YtafeaeaildfohaaGreatDoor
