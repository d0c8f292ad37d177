/- Part 6 of the texts that the law's proof stands on, merged. -/
import Derived.Lib.SortBridge
import Derived.Sort.KeysCollected
import Derived.Test.YtafeaeaildfohaaGreatDoorRt05
set_option linter.unusedVariables false
set_option linter.unusedSimpArgs false
/- ring.Parse (for RingTexts, seat .ZD). -/
namespace Go.Proofs.YtafeaeaildfohaaGreatDoor
open Go.RowKit Go.Maps Go.Shelf
attribute [local go_sem] Oper.semAt_some

theorem splitL_more : ∀ (g : Nat) (s : List UInt8), s.length ≤ g → splitL g s = splitL (g + 1) s
  | 0, s, h => by
    have : s = [] := List.length_eq_zero_iff.1 (by omega)
    subst this
    rfl
  | g + 1, s, h => by
    conv => lhs; unfold splitL
    conv => rhs; unfold splitL
    split
    · next hi =>
      rw [splitL_more g _ (by rw [List.length_drop]; omega)]
    · rfl
theorem splitL_3 (s : List UInt8) : splitL s.length s = splitL (s.length + 3) s := by
  rw [splitL_more s.length s (Nat.le_refl _), splitL_more (s.length + 1) s (by omega), splitL_more (s.length + 2) s (by omega)]
def rdp (p : ByteArray) : Fct := readA (trim41 (bl p) ++ [41])
/-- The rule that ring reads of a line. -/
theorem read_line (L : List UInt8) (body : ByteArray) (hb : bl body = (Lib.cut L [32, 60, 45, 32]).2.1) :
    lineR L = if validR ⟨readA (Lib.cut L [32, 60, 45, 32]).1, (splitB body.size body).map rdp⟩ = true ∧ ruleL ⟨readA (Lib.cut L [32, 60, 45, 32]).1, (splitB body.size body).map rdp⟩ = L then some ⟨readA (Lib.cut L [32, 60, 45, 32]).1, (splitB body.size body).map rdp⟩ else none := by
  have h := lineR_ring L (g := body.size + 3) (by omega)
  have e : readR (body.size + 3) L = ⟨readA (Lib.cut L [32, 60, 45, 32]).1, (splitB body.size body).map rdp⟩ := by
    unfold readR readB
    rw [← hb, show body.size = (bl body).length from rfl, ← splitL_3, ← splitB_list, List.map_map]
    rfl
  rw [e] at h
  exact h
theorem infoRul : (Tryz.prog.info? 28).map (fun i => (i.zero, i.size, i.bytes)) = some (some (.agg #[.string .empty, .string .empty, .string .empty, .slice none 0 0]), tRul.sz, 72) := by kernel_rfl
theorem infoAtm : (Tryz.prog.info? 25).map (fun i => (i.zero, i.size, i.bytes)) = some (some (.agg #[.string .empty, .string .empty, .string .empty]), tFct.sz, 48) := by kernel_rfl
theorem tRul_one : ∀ m cs x, tRul.rv m cs x → ∀ u ∈ cs, u.oneCell' = true := fun m cs x h u hu => by
  obtain ⟨v, rfl, _, h1⟩ := h
  obtain ⟨a1, a2, rfl, -⟩ := slice_form h1
  simp at hu
  rcases hu with rfl | rfl | rfl | rfl <;> rfl
/-- What Parse answers. -/
def ParsOut (t : ByteArray) (w : World) (e : Ending) (w' : World) : Prop :=
  Below w.heap.size w w' ∧
    ((65536 < t.size ∧ e = .returned (.tuple #[.slice none 0 0, .int .i64 0, .int .i64 3])) ∨
     (t.size ≤ 65536 ∧ ∃ rs v, parsL t.size (bl t) [] = (some rs, 0) ∧ e = .returned (.tuple #[v, .int .i64 0, .int .i64 0]) ∧ tRuls.rv (mem w') [v] rs) ∨
     (t.size ≤ 65536 ∧ ∃ n : Nat, parsL t.size (bl t) [] = (none, n) ∧ e = .returned (.tuple #[.slice none 0 0, .int .i64 n, .int .i64 2])))
theorem mem_marks {w w' : World} (h : Keeps (fun k => w.heap[k]? = some (.deferred (some []))) w w') : (mem w).le (mem w') := fun b o v e => by
  have hb := mem_lt e
  refine (mem_of_block (h.block b hb (fun hd => ?_)) o).trans e
  simp [mem, World.cell?, hd] at e
theorem parse_leave {fn : Func} {R : Ending → World → Prop} {tm : Array Value} {W w : World} {ds : List Deferred} {v : Value} {n e : Int} (hf : fn.results = #[.tmp 2, .tmp 3, .tmp 4]) (h2 : tm.getD 2 undef = v) (h3 : tm.getD 3 undef = .int .i64 n) (h4 : tm.getD 4 undef = .int .i64 e)
    (hm : Marks W.heap.size ds w) (hbl : Below W.heap.size W w) (hR : ∀ WF, Below W.heap.size W WF → (mem w).le (mem WF) → R (.returned (.tuple #[v, .int .i64 n, .int .i64 e])) WF) :
    bodyPostM Fence.wide 0 Tryz.prog fn R .ret { tmps := tm, defers := ds } w := by
  obtain ⟨Ds, rfl, hnd, hds⟩ := hm
  show LeavesInM Fence.wide 0 _ _ _ _ _ .returning _
  refine leaves_marks (v := .tuple #[v, .int .i64 n, .int .i64 e]) Ds _ hnd (fun D hD => (hds D hD).2) (fun WF hk => ⟨?_, hR WF (hbl.trans (hk.below hbl.size (fun q e => (hds q e).1))) (mem_marks (hk.wide (fun q _ e => (hds q e).2)))⟩)
  simp only [Array.getD_eq_getD_getElem?] at h2 h3 h4
  simp [results, hf, h2, h3, h4]
/-- Between two lines. -/
structure PSt (W : World) (t : ByteArray) (wr : World) (T : ByteArray) (rs : List Rul) (v : Value) (ds : List Deferred) : Prop where
  rd : ∃ g, T.size ≤ g ∧ parsL t.size (bl t) [] = parsL g (bl T) rs
  sz : T.size ≤ 65536
  le : rs.length ≤ 12
  own : OwnsD tRul (W.heap.size ≤ ·) wr W.heap.size 28 v rs
  mks : Marks W.heap.size ds wr
  bl' : Below W.heap.size W wr
def strSz (a : Act) (i : Nat) : Nat := match a.tmps.getD i undef with | .string s => s.size | _ => 0
/-- In the midst of a line's atoms. -/
structure PI (w5 : World) (p bs : Nat) (n a b : ByteArray) (pre : List ByteArray) (W1 : World) : Prop where
  kp : Keeps (fun q => q = p ∨ q = bs ∨ w5.heap.size ≤ q) w5 W1
  ex : ∃ u, W1.heap[p]? = some (.cells #[.string n, .string a, .string b, u] 28 (0, 0)) ∧ Owns tFct W1 w5.heap.size 25 u (pre.map rdp)
theorem three_allocT {w X : World} {c1 c2 c3 : Array Value} {t1 t2 t3 : TypeId} (hX : X = ((w.alloc (.cells c1 t1)).alloc (.cells c2 t2)).alloc (.cells c3 t3)) :
    Below w.heap.size w X ∧ X.heap.size = w.heap.size + 3 ∧ X.heap[w.heap.size]? = some (.cells c1 t1 (0, 0)) ∧ X.heap[w.heap.size + 1]? = some (.cells c2 t2 (0, 0)) ∧ X.heap[w.heap.size + 2]? = some (.cells c3 t3 (0, 0)) := by
  subst hX
  refine ⟨(((Below.refl _ _).alloc (Nat.le_refl _) _).alloc (by simp) _).alloc (by simp <;> omega) _, by simp, (Below.heap_alloc _ _ _ (by simp <;> omega)).trans ((Below.heap_alloc _ _ _ (by simp <;> omega)).trans (heap_alloc_new w _)), ?_, ?_⟩
  · have := heap_alloc_new (w.alloc (.cells c1 t1)) (.cells c2 t2)
    rw [World.size_alloc] at this
    exact (Below.heap_alloc _ _ _ (by simp <;> omega)).trans this
  · have := heap_alloc_new ((w.alloc (.cells c1 t1)).alloc (.cells c2 t2)) (.cells c3 t3)
    rwa [World.size_alloc, World.size_alloc] at this
theorem append_run {P : Program} {α : Type} {t : Ty α} {w : World} {B : Nat} {e T ty : TypeId} {v : Value} {xs : List α} {z : Value} {bytes : Nat} (hT : P.underlying T = some (.slice e))
    (hinf : (P.info? e).map (fun i => (i.zero, i.size, i.bytes)) = some (some z, t.sz, bytes)) (hzs : z.cells.size = t.sz) (hsz : 0 < t.sz) (hown : Owns t w B e v xs)
    {nb c : Nat} {y : α} {cs : List Value} (hat : At (mem w) nb 0 cs) (hrv : t.rv ((mem w).on (fun b => some b ≠ v.ownBlock)) cs y) (h1 : ∀ u ∈ cs, u.oneCell' = true)
    (h63 : xs.length + 1 ≤ maxLen) (hbytes : (xs.length + 1) * bytes ≤ 140737488355328) (hbase : B ≤ w.heap.size) :
    ∃ v' w', (Builtin.append_ #[T, T] ty #[v, .slice (some ⟨nb, 0, none⟩) 1 c]).run P w = .ok v' w' ∧ Owns t w' B e v' (xs ++ [y]) ∧ w.grownBy w' v.ownBlock := by
  obtain ⟨i, hi, hz, hsize, hby⟩ := info_parts hinf
  have hown' := hown
  obtain ⟨css, g1, g2, g4, g5⟩ := hown
  have hl : cs.length = 1 * t.sz := by rw [t.len _ _ _ hrv, Nat.one_mul]
  have hnews : ∀ j u, cs[j]? = some u → w.cell? ((⟨nb, 0, none⟩ : Addr).add j) = some u := fun j u hj => by rw [Addr.add_lit]; exact hat j u hj
  obtain ⟨v', w', hr, h2, h3, _⟩ := run_append_own (P := P) w B T ty e i z t.sz bytes hT hi hz hsize hby hzs hsz v xs.length css.flatten g2 ⟨nb, 0, none⟩ 1 c cs hl hnews h1 h63 hbytes hbase
  have hblk := append_block w B T ty e i z t.sz bytes hT hi hz hsize hby v xs.length css.flatten g2 ⟨nb, 0, none⟩ 1 c cs hl hnews h1 (by omega) h63 hbytes hr
  refine ⟨v', w', hr, hown'.snoc (fun css' hc' => ?_) h3 hblk hrv, h3⟩
  obtain ⟨v2, w2, hr2, h22, _, _⟩ := run_append_own (P := P) w B T ty e i z t.sz bytes hT hi hz hsize hby hzs hsz v xs.length css'.flatten hc' ⟨nb, 0, none⟩ 1 c cs hl hnews h1 h63 hbytes hbase
  rw [hr] at hr2
  injection hr2 with ev ew
  subst ev; subst ew
  exact h22
theorem tFct_flatG : tFct.flat := fun _ _ _ _ h => h
theorem PI.step {w6 A B : World} {p bs : Nat} {n a b : ByteArray} {pre : List ByteArray} {F : Nat → Prop} (h : PI w6 p bs n a b pre A) (hk : Keeps F A B) (hp : p < w6.heap.size) (hne : p ≠ bs) (hF : ∀ k, F k → k = bs ∨ (w6.heap.size ≤ k ∧ NotCellsG A k)) (hb : bs < w6.heap.size) : PI w6 p bs n a b pre B := by
  obtain ⟨hkp, u, hc, ho⟩ := h
  refine ⟨hkp.trans (hk.wide (fun q _ e => ?_)), u, (hk.block p (Array.getElem?_eq_some_iff.1 hc).1 (fun e => ?_)).trans hc, ho.keepsC tFct_flatG hk (fun k o h1 h2 h3 e => ?_)⟩
  · rcases hF q e with e | e
    · exact .inr (.inl e)
    · exact .inr (.inr e.1)
  · rcases hF p e with e | e
    · exact hne e
    · omega
  · rcases hF k e with e | ⟨_, o', e1, e2⟩
    · omega
    · rw [h2] at e1; cases e1; rw [h3] at e2; cases e2
theorem PI.snoc {w6 W3 W4 w7 : World} {p bs : Nat} {n a b : ByteArray} {pre : List ByteArray} {x : ByteArray} {u v' : Value} {o : Obj} (hkp : Keeps (fun q => q = p ∨ q = bs ∨ w6.heap.size ≤ q) w6 W3) (hc : W3.heap[p]? = some (.cells #[.string n, .string a, .string b, u] 28 (0, 0)))
    (ho : Owns tFct W3 w6.heap.size 25 u (pre.map rdp)) (hp : p < w6.heap.size) (hb4 : Below W3.heap.size W3 W4) (hg : (W4.alloc o).grownBy w7 u.ownBlock) (own7 : Owns tFct w7 w6.heap.size 25 v' (pre.map rdp ++ [rdp x])) :
    KeepsOthers W3 (w7.setCell ⟨p, 3, none⟩ v') ∧ Keeps (fun k => k = p ∨ w6.heap.size ≤ k) W3 (w7.setCell ⟨p, 3, none⟩ v') ∧ PI w6 p bs n a b (pre ++ [x]) (w7.setCell ⟨p, 3, none⟩ v') := by
  have hp3 : p < W3.heap.size := (Array.getElem?_eq_some_iff.1 hc).1
  have hu : ∀ k, some k = u.ownBlock → w6.heap.size ≤ k ∧ k < W3.heap.size := fun k hk => ho.lt k hk.symm
  have hp4 : p < (W4.alloc o).heap.size := by have := hb4.size; simp; omega
  have hc7 : w7.heap[p]? = some (.cells #[.string n, .string a, .string b, u] 28 (0, 0)) :=
    (hg.block p hp4 (fun e => by have := (hu p e).1; omega)).trans ((Below.heap_alloc _ _ _ (by have := hb4.size; omega)).trans ((hb4.block p hp3).trans hc))
  have hset : Keeps (fun k => k = p) w7 (w7.setCell ⟨p, 3, none⟩ v') := (Keeps.refl (fun k => k = p) w7).setCell (p := ⟨p, 3, none⟩) (fun _ => rfl) _
  have KH : Keeps (fun k => k = p ∨ some k = u.ownBlock ∨ W3.heap.size ≤ k) W3 (w7.setCell ⟨p, 3, none⟩ v') :=
    (((below_keeps hb4).wide (fun k _ h => .inr (.inr h))).trans (((Keeps.refl _ W4).alloc o).trans ((grown_keeps hg).wide (fun k _ h => .inr (.inl h))))).trans (hset.wide (fun k _ h => .inl h))
  refine ⟨others_of_keeps KH (fun k o h1 h2 => ?_), KH.wide (fun k hk h => ?_), hkp.trans (KH.wide (fun k hk h => ?_)), v', ?_, ?_⟩
  · rcases h1 with h1 | h1 | h1
    · subst h1; rw [hc] at h2; cases h2; rfl
    · exact own_cells ho k o h1.symm h2
    · have := (Array.getElem?_eq_some_iff.1 h2).1; omega
  · rcases h with h | h | h
    · exact .inl h
    · exact .inr (hu k h).1
    · omega
  · rcases h with h | h | h
    · exact .inl h
    · exact .inr (.inr (hu k h).1)
    · omega
  · exact heap_setCell_same w7 p 3 _ _ v' hc7
  · rw [List.map_append, List.map_cons, List.map_nil]
    exact own7.keepsC tFct_flatG hset (fun k o h1 _ _ h => by omega)

theorem readA_ok (s : List UInt8) (hs : s.length ≤ 70000) : okF (readA s) := by
  have h1 := cut_le s [40]
  have h2 := trim41_le (Lib.cut s [40]).2.1
  have h3 := cut_le (trim41 (Lib.cut s [40]).2.1) [44, 32]
  unfold readA okF maxLen
  refine ⟨?_, ?_, ?_⟩
  · show (bl ⟨(Lib.cut s [40]).1.toArray⟩).length ≤ _; rw [bl_mkT]; omega
  · show (bl ⟨(Lib.cut (trim41 (Lib.cut s [40]).2.1) [44, 32]).1.toArray⟩).length ≤ _; rw [bl_mkT]; omega
  · show (bl ⟨(Lib.cut (trim41 (Lib.cut s [40]).2.1) [44, 32]).2.1.toArray⟩).length ≤ _; rw [bl_mkT]; omega
theorem OwnsD.isCells {α : Type} {t : Ty α} {S : Nat → Prop} {w : World} {B : Nat} {e : TypeId} {v : Value} {xs : List α} (h : OwnsD t S w B e v xs) : ∀ k, v.ownBlock = some k → ∃ cur, w.heap[k]? = some (.cells cur e (0, 0)) := by
  obtain ⟨M, h1, h2, h3⟩ := h
  exact h2.cells
/-- Behind a line that is a rule: the rule put behind the others. -/
theorem PSt.next {W w1 w6 W7 w9 w10 : World} {t T rest first : ByteArray} {rs : List Rul} {v v' u : Value} {ds : List Deferred} {D : Nat} {r : Rul} (H : PSt W t w1 T rs v ds) (hm7 : Marks W.heap.size ds W7) (hb9 : Below W7.heap.size W7 w9) (hb10 : Below W.heap.size W w9) (c10 : Obj)
    (hown : OwnsD tRul (W.heap.size ≤ ·) (w9.alloc c10) W.heap.size 28 v rs) (own10 : OwnsD tRul (W.heap.size ≤ ·) w10 W.heap.size 28 v' (rs ++ [r])) (hg : (w9.alloc c10).grownBy w10 v.ownBlock)
    (hrd : ∀ g, T.size ≤ g + 1 → parsL (g + 1) (bl T) rs = parsL g (bl rest) (rs ++ [r])) (hsz : rest.size < T.size) (h12 : rs.length < 12) : PSt W t w10 rest (rs ++ [r]) v' ds := by
  refine ⟨?_, by have := H.sz; omega, by simp; omega, own10, ?_, ?_⟩
  · obtain ⟨g, hg, h⟩ := H.rd
    obtain ⟨g', rfl⟩ : ∃ g', g = g' + 1 := ⟨g - 1, by omega⟩
    exact ⟨g', by omega, h.trans (hrd g' hg)⟩
  · refine ((hm7.keeps (below_keeps hb9) (fun q o e ho => ?_)).keeps ((Keeps.refl (fun _ => False) w9).alloc c10) (fun q o e => e.elim)).keeps (grown_keeps hg) (fun q o e ho => ?_)
    · have := (Array.getElem?_eq_some_iff.1 ho).1; omega
    · obtain ⟨cur, hc⟩ := hown.isCells q e.symm
      rw [hc] at ho; cases ho; simp
  · exact (hb10.alloc hb10.size c10).grown hg (by have := hb10.size; simp; omega) (fun k hk => (hown.lt k hk).1)

/-- Inside the region that appends an atom to the rule's body. -/
structure BJ (W3 : World) (p3 : Addr) (sl : Value) (x tx : ByteArray) (k : Nat) (Fin : World → Prop) (L : Nat → Bool) (f : Nat → Value) (w' : World) : Prop where
  v0 : L 0 = true → f 0 = .pointer (some p3)
  v1 : L 1 = true → f 1 = sl
  v2 : L 2 = true → f 2 = .string x
  v3 : L 3 = true → f 3 = .string tx
  v4 : L 4 = true → f 4 = .string (tx ++ ⟨#[41]⟩)
  v8 : L 8 = true → f 8 = .pointer (some p3)
  d6 : L 6 = true → L 5 = true
  d7 : L 7 = true → L 6 = true ∧ L 1 = true
  d9 : L 9 = true → L 7 = true
  wA : L 5 = false → Below W3.drew.heap.size W3.drew w'
  wB : L 5 = true → L 6 = false → Below W3.drew.heap.size W3.drew w' ∧ ∃ n a b, f 5 = .agg #[.string n, .string a, .string b] ∧ (⟨n, a, b⟩ : Fct) = rdp x
  wC : L 6 = true → L 7 = false → ∃ W4 n a b, (⟨n, a, b⟩ : Fct) = rdp x ∧ Below W3.drew.heap.size W3.drew W4 ∧ w' = W4.alloc (.cells #[.string n, .string a, .string b] 25) ∧ f 6 = .slice (some ⟨W4.heap.size, 0, none⟩) 1 1
  wD : L 7 = true → L 9 = false → ∃ a7 c7, f 7 = .slice a7 (k + 1) c7 ∧ w'.cell? p3 = some sl ∧ w'.frozen? p3 = false ∧ Fin (w'.setCell p3 (.slice a7 (k + 1) c7))
  wE : L 9 = true → Fin w'
theorem bFalse {b : Bool} (h : b = false) (h2 : b = true) : False := by rw [h] at h2; cases h2

set_option maxRecDepth 100000 in
set_option maxHeartbeats 8000000 in
theorem ringParse_any (t : ByteArray) (W : World) (hs : t.size ≤ 200000) (m : Int) (hm : W.cell? ⟨0, 0, none⟩ = some (.int .i64 m)) :
    Calls Tryz.prog 10 #[.string t] W (ParsOut t W) := by
  have HM := Lib.hid hm
  by_cases h64 : 65536 < t.size
  · have h64i : (65536 : Int) < (t.size : Int) := by omega
    refine (callsIn_wide (n := 0)).1 (callsIn_of_wp_marks Tryz.func10 rfl trivial ?_ rfl)
    simp only [Tryz.ntmps10, List.size_toArray, List.length_cons, List.length_nil, Nat.reduceAdd, Nat.reduceSub, Array.replicate_succ, Array.replicate_zero, List.push_toArray, List.append_toArray, List.nil_append, List.cons_append]
    refine (wpIn_wide (n := 0)).2 ?_
    go_wp2
    exact parse_leave rfl rfl rfl rfl (Marks.nil _ _) (Below.refl _ _) (fun WF hb _ => ⟨hb, .inl ⟨h64, rfl⟩⟩)
  have h64i : (t.size : Int) ≤ 65536 := by omega
  have H64 := Lib.hid (show t.size ≤ 65536 by omega)
  have HP0 := Lib.hid (show PSt W t W t [] (.slice none 0 0) [] from ⟨⟨t.size, Nat.le_refl _, rfl⟩, by omega, by simp, OwnsD.nil _ _ _ _ _, Marks.nil _ _, Below.refl _ _⟩)
  clear h64 hm
  refine (callsIn_wide (n := 0)).1 (callsIn_of_wp_marks Tryz.func10 rfl trivial ?_ rfl)
  simp only [Tryz.ntmps10, List.size_toArray, List.length_cons, List.length_nil, Nat.reduceAdd, Nat.reduceSub, Array.replicate_succ, Array.replicate_zero, List.push_toArray, List.append_toArray, List.nil_append, List.cons_append]
  refine (wpIn_wide (n := 0)).2 ?_
  go_wp2_with fail
  obtain ⟨I2, hI2⟩ : ∃ I : Act → World → Prop, I = fun a w => ∃ (u1 u5 u6 u7 u8 u9 u10 u11 u12 u13 u14 u15 u16 u17 u18 u19 u20 u21 u22 u23 u24 u25 u26 u27 u28 u29 u30 u31 u32 u33 u34 u35 u36 u37 u38 u39 u40 u41 u42 u43 u44 u45 u46 u47 u48 u49 u50 u51 u52 u53 u54 u55 u56 u57 u58 u59 u60 u61 u62 u63 u64 u65 u66 u67 u68 u69 u70 u71 : Value) (T : ByteArray) (v : Value) (rs : List Rul) (ds : List Deferred), a = { tmps := #[.string T, u1, v, .int .i64 0, .int .i64 0, u5, u6, u7, u8, u9, u10, u11, u12, u13, u14, u15, u16, u17, u18, u19, u20, u21, u22, u23, u24, u25, u26, u27, u28, u29, u30, u31, u32, u33, u34, u35, u36, u37, u38, u39, u40, u41, u42, u43, u44, u45, u46, u47, u48, u49, u50, u51, u52, u53, u54, u55, u56, u57, u58, u59, u60, u61, u62, u63, u64, u65, u66, u67, u68, u69, u70, u71], defers := ds } ∧ Hid (PSt W t w T rs v ds) := ⟨_, rfl⟩
  obtain ⟨μ2, hμ2⟩ : ∃ μ : Act → World → Nat, μ = fun a w => strSz a 0 := ⟨_, rfl⟩
  have HI := Lib.hid hI2
  have HMU := Lib.hid hμ2
  refine wp_loop I2 μ2 ?_ ?_
  · rw [hI2]
    exact ⟨_, _, _, _, _, _, _, _, _, _, _, _, _, _, _, _, _, _, _, _, _, _, _, _, _, _, _, _, _, _, _, _, _, _, _, _, _, _, _, _, _, _, _, _, _, _, _, _, _, _, _, _, _, _, _, _, _, _, _, _, _, _, _, _, _, _, _, _, t, _, [], [], rfl, HP0⟩
  clear HP0 hI2 hμ2 h64i
  intro a w1 h1
  have h1 := (congrFun (congrFun HI.out a) w1).mp h1
  obtain ⟨u1, u5, u6, u7, u8, u9, u10, u11, u12, u13, u14, u15, u16, u17, u18, u19, u20, u21, u22, u23, u24, u25, u26, u27, u28, u29, u30, u31, u32, u33, u34, u35, u36, u37, u38, u39, u40, u41, u42, u43, u44, u45, u46, u47, u48, u49, u50, u51, u52, u53, u54, u55, u56, u57, u58, u59, u60, u61, u62, u63, u64, u65, u66, u67, u68, u69, u70, u71, T, v, rs, ds, rfl, H2⟩ := h1
  obtain ⟨av, cv, rfl, -⟩ := H2.out.own.len
  by_cases hT0 : T.size = 0
  · have hem : T.toList.isEmpty = true := by
      rw [← decide_eq_emptyBytes]
      exact decide_eq_true (bl_inj (List.length_eq_zero_iff.1 hT0))
    have HE := Lib.hid (show parsL t.size (bl t) [] = (some rs, 0) from by
      obtain ⟨g, hg, h⟩ := H2.out.rd
      rw [h, show bl T = [] from List.length_eq_zero_iff.1 hT0, parsL_end])
    go_wp2_with fail
    exact parse_leave rfl rfl rfl rfl H2.out.mks H2.out.bl' (fun WF hb hmm => ⟨hb, .inr (.inl ⟨H64.out, rs, _, HE.out, rfl, tRuls.mono _ _ _ _ (Mem.le_trans (Mem.on_le _ (W.heap.size ≤ ·)) hmm) (H2.out.own.rv (fun _ h => h) (fun _ h => h))⟩)⟩)
  have hem : T.toList.isEmpty = false := by
    rw [← decide_eq_emptyBytes]
    exact decide_eq_false (fun e => hT0 (by rw [e]; rfl))
  have hTz := H2.out.sz
  have HC1 := Lib.hid (cutAny T ⟨#[10]⟩ m w1 (by omega) (below_mem H2.out.bl' _ _ _ HM.out))
  rw [show bl (⟨#[10]⟩ : ByteArray) = [10] from rfl] at HC1
  have HL1 := Lib.hid (cut_le (bl T) [10])
  have HTL := Lib.hid (show (bl T).length = T.size from rfl)
  have HTN := Lib.hid (show bl T ≠ [] from fun e => hT0 (by rw [← HTL.out, e]; rfl))
  have HCL := Lib.hid (fun h => cut_len (T := bl T) h)
  have HB1 := Lib.hid (bl_mkT (Lib.cut (bl T) [10]).1)
  have HB2 := Lib.hid (bl_mkT (Lib.cut (bl T) [10]).2.1)
  have HGD := Lib.hid (show ∀ (g : Nat) r, (Lib.cut (bl T) [10]).2.2 = true → lineR (Lib.cut (bl T) [10]).1 = some r → rs.length < 12 → parsL (g + 1) (bl T) rs = parsL g (Lib.cut (bl T) [10]).2.1 (rs ++ [r]) from fun g r h1 h2 h3 => parsL_good HTN.out h1 h2 h3)
  have HBD := Lib.hid (show ∀ (g : Nat), ((Lib.cut (bl T) [10]).2.2 = false ∨ lineR (Lib.cut (bl T) [10]).1 = none ∨ 12 ≤ rs.length) → parsL (g + 1) (bl T) rs = (none, rs.length) from fun g h => parsL_bad HTN.out h)
  clear hT0
  generalize (⟨(Lib.cut (bl T) [10]).1.toArray⟩ : ByteArray) = first at *
  generalize (⟨(Lib.cut (bl T) [10]).2.1.toArray⟩ : ByteArray) = rest at *
  generalize (Lib.cut (bl T) [10]).2.2 = ended at *
  rw [← HB1.out] at HGD HBD HL1
  rw [← HB2.out] at HGD HL1 HCL
  clear HB1 HB2
  have hfz : first.size ≤ 65536 := by have := HL1.out.1; rw [show (bl first).length = first.size from rfl] at this; have := HTL.out; omega
  have hrz : rest.size ≤ T.size := by have := HL1.out.2; rw [show (bl rest).length = rest.size from rfl] at this; have := HTL.out; omega
  go_wp2_with fail
  refine HC1.out.mono ?_
  rintro e w2 ⟨rfl, hb2⟩
  have HB2 := Lib.hid (pure_trans H2.out.bl' hb2)
  have HBS2 := Lib.hid hb2
  have HC2 := Lib.hid (cutAny first ⟨#[32, 60, 45, 32]⟩ m w2 (by omega) (below_mem HB2.out _ _ _ HM.out))
  rw [show bl (⟨#[32, 60, 45, 32]⟩ : ByteArray) = [32, 60, 45, 32] from rfl] at HC2
  have HL2 := Lib.hid (cut_le (bl first) [32, 60, 45, 32])
  have HLN := Lib.hid (read_line (bl first) ⟨(Lib.cut (bl first) [32, 60, 45, 32]).2.1.toArray⟩ (bl_mkT _))
  have HB4 := Lib.hid (bl_mkT (Lib.cut (bl first) [32, 60, 45, 32]).1)
  have HB5 := Lib.hid (bl_mkT (Lib.cut (bl first) [32, 60, 45, 32]).2.1)
  generalize (⟨(Lib.cut (bl first) [32, 60, 45, 32]).1.toArray⟩ : ByteArray) = head at *
  generalize (⟨(Lib.cut (bl first) [32, 60, 45, 32]).2.1.toArray⟩ : ByteArray) = body at *
  generalize (Lib.cut (bl first) [32, 60, 45, 32]).2.2 = sep1 at *
  rw [← HB4.out] at HLN HL2
  rw [← HB5.out] at HL2
  have hhz : head.size ≤ 65536 := by have := HL2.out.1; rw [show (bl head).length = head.size from rfl, show (bl first).length = first.size from rfl] at this; omega
  have hbz : body.size ≤ 65536 := by have := HL2.out.2; rw [show (bl body).length = body.size from rfl, show (bl first).length = first.size from rfl] at this; omega
  clear HB4 HB5 HL2 hb2 HC1 HL1
  go_wp2_with fail
  refine HC2.out.mono ?_
  rintro e w3 ⟨rfl, hb3⟩
  have HB3 := Lib.hid (pure_trans HB2.out hb3)
  have HBS3 := Lib.hid (pure_trans HBS2.out hb3)
  have HRD := Lib.hid (ringRead_any head m w3 (by omega) (below_mem HB3.out _ _ _ HM.out))
  clear HC2 hb3 HB2 HBS2
  go_wp2_with fail
  refine HRD.out.mono ?_
  rintro e w4 ⟨rn, ra, rb, rfl, hhd, hb4⟩
  have HHD := Lib.hid hhd
  have HB4 := Lib.hid (pure_trans HB3.out hb4)
  have HBS4 := Lib.hid (pure_trans HBS3.out hb4)
  clear HRD hb4 HB3 HBS3 hhd
  obtain ⟨w5, hw5⟩ : ∃ w5, w5 = w4.alloc (.cells #[.string rn, .string ra, .string rb, .slice none 0 0] 28) := ⟨_, rfl⟩
  have HW5 := Lib.hid hw5
  have hb5 : Below w4.heap.size w4 w5 := by rw [hw5]; exact boxB w4 _
  have HR5 := Lib.hid (show w5.heap[w4.heap.size]? = some (.cells #[.string rn, .string ra, .string rb, .slice none 0 0] 28 (0, 0)) from by rw [hw5]; exact heap_alloc_new w4 _)
  have HBS5 := Lib.hid (pure_trans HBS4.out hb5)
  have HSP := Lib.hid (splitSeq_any body sepS w5)
  clear hw5 hb5
  go_wp2_with fail
  rw [← HW5.out]
  refine HSP.out.mono ?_
  rintro e w6 ⟨rfl, hw6⟩
  obtain ⟨hxb, hxs, x1, x2, x3⟩ := three_allocT hw6
  have HBS6 := Lib.hid (pure_trans HBS5.out hxb)
  have HB6 := Lib.hid (pure_trans H2.out.bl' HBS6.out)
  have HR6 := Lib.hid ((hxb.block _ (Array.getElem?_eq_some_iff.1 HR5.out).1).trans HR5.out)
  have hpw : w4.heap.size < w5.heap.size := (Array.getElem?_eq_some_iff.1 HR5.out).1
  have hW1 : w1.heap.size ≤ w4.heap.size := HBS4.out.size
  have hWW : W.heap.size ≤ w1.heap.size := H2.out.bl'.size
  have HPOS := Lib.hid (show 0 < W.heap.size from mem_lt (w := W) HM.out)
  have HSA := Lib.hid (show SplAt w6 w5.heap.size (w5.heap.size + 1) (w5.heap.size + 2) m body from ⟨x1, x2, x3, below_mem HB6.out _ _ _ HM.out⟩)
  have HX6 := Lib.hid hxs
  have HBSC := Lib.hid x1
  clear x1 x2 x3 hxb hxs hw6 HSP HR5 HBS5 HW5
  have hread := split1_gives body w5.heap.size (w5.heap.size + 1) (w5.heap.size + 2) m w6 (fun k => k = w4.heap.size ∨ w6.heap.size ≤ k) HSA.out (by omega) (fun h => by have := HX6.out; omega) (fun h => by have := HX6.out; omega) (fun h => by have := HX6.out; omega) (fun h => by have := HX6.out; have := HPOS.out; omega) ⟨by omega, by omega, by have := HPOS.out; omega⟩
  have HLEN := Lib.hid (splitB_len body.size body)
  have HSZ := Lib.hid (splitB_size body.size body)
  rw [← HHD.out] at HLN
  generalize splitB body.size body = ps at hread HLEN HSZ HLN
  go_wp2_with fail
  refine wp_rangeG (gf := 66) (lb := #[.pointer (some ⟨w5.heap.size + 1, 0, none⟩), .pointer (some ⟨w5.heap.size, 0, none⟩), .pointer (some ⟨w5.heap.size + 2, 0, none⟩)]) (by first | rfl | simp) (fun _ _ => rfl) hread (Below.refl _ _)
    (fun k hk => by have := HX6.out; omega) (fun k hk => .inr hk) (fun x vs n W hE => by obtain ⟨rfl, _⟩ := hE; rfl)
    (fun pre W' => PI w6 w4.heap.size w5.heap.size rn ra rb pre W') ?closed ?start ?round ?done
  case closed =>
    intro pre A B hI hk
    exact hI.step hk (by have := HX6.out; omega) (by omega) (fun k e => by rcases e with e | e; exact .inl e; exact .inr e) (by have := HX6.out; omega)
  case start => exact ⟨Keeps.refl _ _, _, HR6.out, Owns.nil _ _ _ _⟩
  case round =>
    clear hread HSA HGD HBD HLN
    rintro l pre x post W0 W1 vs hx hI hG hE hsz0
    obtain ⟨rfl, _⟩ := hE
    have hpl : pre.length ≤ 65536 := by
      have h2 : ps.length = pre.length + (post.length + 1) := by rw [hx]; simp
      have := HLEN.out
      omega
    have hxz : x.size ≤ 65536 := by have := HSZ.out x (by rw [hx]; simp); omega
    have HI1 := Lib.hid (hI.step hG (by have := HX6.out; omega) (by omega) (fun k e => .inl e) (by have := HX6.out; omega))
    clear hI hx hG HLEN HSZ
    gi_wp2_with fail
    refine ⟨Keeps.refl _ _, fun W3 hk => ?_⟩
    have HI3 := Lib.hid (HI1.out.step hk (by have := HX6.out; omega) (by omega) (fun k e => .inr e) (by have := HX6.out; omega))
    clear HI1 hk
    obtain ⟨hkp3, u, c3, o3⟩ := HI3.out
    obtain ⟨au, cu, rfl, hml⟩ := o3.len
    have HPL := Lib.hid (show (pre.map rdp).length = pre.length by simp)
    have HTS := Lib.hid (show ∀ w', Calls Tryz.prog 26 #[.string x, .string ⟨#[41]⟩] w' fun e w'' => e = .returned (.string ⟨(trim41 (bl x)).toArray⟩) ∧ w'' = w' from fun w' => by
      have h := Tryz.strings_TrimSuffix x ⟨#[41]⟩ w' (by omega)
      rw [show (⟨#[41]⟩ : ByteArray).data.toList = [41] from rfl, trim_suffix] at h
      exact h)
    have HTX := Lib.hid (bl_mkT (trim41 (bl x)))
    have htz := trim41_le (bl x)
    generalize (⟨(trim41 (bl x)).toArray⟩ : ByteArray) = tx at HTS HTX
    have hts : tx.size ≤ 65536 := by
      have h1 : (bl tx).length = tx.size := rfl
      have h2 : (bl x).length = x.size := rfl
      rw [HTX.out] at h1
      omega
    have HRX := Lib.hid (show ∀ w', w'.cell? ⟨0, 0, none⟩ = some (.int .i64 m) → Calls Tryz.prog 24 #[.string (tx ++ ⟨#[41]⟩)] w' fun e w'' => ∃ n a b, e = .returned (.agg #[.string n, .string a, .string b]) ∧ (⟨n, a, b⟩ : Fct) = rdp x ∧ Below w'.heap.size w' w'' from fun w' hw' => by
      have h := ringRead_any (tx ++ ⟨#[41]⟩) m w' (by rw [ByteArray.size_append]; show tx.size + 1 ≤ _; omega) hw'
      rw [show bl (tx ++ ⟨#[41]⟩) = trim41 (bl x) ++ [41] from by rw [bl_append, HTX.out]; rfl] at h
      exact h)
    have hm3 : W3.cell? ⟨0, 0, none⟩ = some (.int .i64 m) := by
      refine (mem_of_block (hkp3.block 0 (by have := HB6.out.size; have := HPOS.out; omega) (fun e => ?_)) 0).trans (below_mem HB6.out _ _ _ HM.out)
      have := HPOS.out
      have := HB6.out.size
      rcases e with e | e | e <;> omega
    have HOKX := Lib.hid (show okF (rdp x) from by
      have key : ∀ (s : List UInt8), s.length ≤ 70000 → okF (readA s) := fun s hs => by
        have h1 := cut_le s [40]
        have h2 := trim41_le (Lib.cut s [40]).2.1
        have h3 := cut_le (trim41 (Lib.cut s [40]).2.1) [44, 32]
        unfold readA okF maxLen
        refine ⟨?_, ?_, ?_⟩
        · show (bl ⟨(Lib.cut s [40]).1.toArray⟩).length ≤ _; rw [bl_mkT]; omega
        · show (bl ⟨(Lib.cut (trim41 (Lib.cut s [40]).2.1) [44, 32]).1.toArray⟩).length ≤ _; rw [bl_mkT]; omega
        · show (bl ⟨(Lib.cut (trim41 (Lib.cut s [40]).2.1) [44, 32]).2.1.toArray⟩).length ≤ _; rw [bl_mkT]; omega
      refine key _ ?_
      rw [List.length_append, show (bl x).length = x.size from rfl] at *
      simp only [List.length_cons, List.length_nil]
      omega)
    have HFIN := Lib.hid (show ∀ W4, Below W3.drew.heap.size W3.drew W4 → ∀ n a b, (⟨n, a, b⟩ : Fct) = rdp x → ∃ a7 c7 w7, (Builtin.append_ #[26, 26] 26 #[.slice au (pre.map rdp).length cu, .slice (some ⟨W4.heap.size, 0, none⟩) 1 1]).run Tryz.prog (W4.alloc (.cells #[.string n, .string a, .string b] 25)) = .ok (.slice a7 (pre.length + 1) c7) w7 ∧
        (w7.cell? ⟨w4.heap.size, 3, none⟩ = some (.slice au (pre.map rdp).length cu) ∧ w7.frozen? ⟨w4.heap.size, 3, none⟩ = false) ∧ KeepsOthers W3 (w7.setCell ⟨w4.heap.size, 3, none⟩ (.slice a7 (pre.length + 1) c7)) ∧ Keeps (fun k => k = w4.heap.size ∨ w6.heap.size ≤ k) W3 (w7.setCell ⟨w4.heap.size, 3, none⟩ (.slice a7 (pre.length + 1) c7)) ∧ PI w6 w4.heap.size w5.heap.size rn ra rb (pre ++ [x]) (w7.setCell ⟨w4.heap.size, 3, none⟩ (.slice a7 (pre.length + 1) c7)) from fun W4 hb n a b hh => by
      have hb' : Below W3.heap.size W3 W4 := ⟨hb.os, hb.tape, hb.output, hb.size, hb.block⟩
      have hp3 : w4.heap.size < W3.heap.size := (Array.getElem?_eq_some_iff.1 c3).1
      have hsz4 := hb'.size
      have h63 := hkp3.size
      obtain ⟨v', w7, hr, ho7, hg7⟩ := append_run (P := Tryz.prog) (ty := 26) Tryz.underlying26 infoAtm rfl (by decide) ((o3.keeps hb').alloc (.cells #[.string n, .string a, .string b] 25)) (nb := W4.heap.size) (c := 1) (y := rdp x) (cs := [.string n, .string a, .string b])
        (fun j w hj => by
          have := mem_cells (heap_alloc_new W4 (.cells #[.string n, .string a, .string b] 25)) (0 + j)
          refine this.trans ?_
          rw [Nat.zero_add]; simpa using hj) ⟨by rw [← hh], HOKX.out⟩ (fun w hw => by simp at hw; rcases hw with rfl | rfl | rfl <;> rfl) (by rw [HPL.out]; unfold maxLen; omega) (by rw [HPL.out]; omega) (by simp; omega)
      obtain ⟨a7, c7, rfl, -⟩ := ho7.len
      have hlen : (pre.map rdp ++ [rdp x]).length = pre.length + 1 := by simp
      rw [hlen] at hr ho7
      have hc7 : w7.heap[w4.heap.size]? = some (.cells #[.string rn, .string ra, .string rb, .slice au (pre.map rdp).length cu] 28 (0, 0)) :=
        (hg7.block _ (by simp; omega) (fun e => by have := (o3.lt _ e.symm).1; have := HX6.out; omega)).trans ((Below.heap_alloc _ _ _ (by omega)).trans ((hb'.block _ hp3).trans c3))
      exact ⟨a7, c7, w7, hr, ⟨mem_cells hc7 3, frozen_cells hc7 3⟩, PI.snoc (x := x) hkp3 c3 o3 (by have := HX6.out; omega) hb' hg7 ho7⟩)
    have HCE := Lib.hid (show ∀ W4, Below W3.drew.heap.size W3.drew W4 → W4.cell? ⟨w4.heap.size, 3, none⟩ = some (.slice au (pre.map rdp).length cu) ∧ ∀ o, (W4.alloc o).cell? ⟨w4.heap.size, 3, none⟩ = some (.slice au (pre.map rdp).length cu) from fun W4 hb => by
      have h4 := below_mem (w := W3.drew) hb _ _ _ (mem_cells c3 3 : W3.drew.cell? ⟨w4.heap.size, 3, none⟩ = some (.slice au (pre.map rdp).length cu))
      exact ⟨h4, fun o => below_mem (boxB W4 o) _ _ _ h4⟩)
    have k3 : W3.drew.cell? ⟨w4.heap.size, 3, none⟩ = some (.slice au (pre.map rdp).length cu) := mem_cells c3 3
    have HM3 := Lib.hid (show W3.drew.cell? ⟨0, 0, none⟩ = some (.int .i64 m) from hm3)
    have hno : ¬ 9223372036854775807 < tx.size + 1 := by omega
    clear HI3 hkp3 c3 o3 hml htz hm3 HOKX
    generalize (pre.map rdp).length = npre at *
    gi_wp2_with fail
    refine wpIn_region_inv (by kernel_rfl) (by kernel_rfl) (by rintro ⟨_, _, h⟩; exact h) (by kernel_rfl) (by kernel_rfl) (BJ W3 ⟨w4.heap.size, 3, none⟩ (.slice au npre cu) x tx pre.length (fun w' => KeepsOthers W3 w' ∧ Keeps (fun k => k = w4.heap.size ∨ w6.heap.size ≤ k) W3 w' ∧ PI w6 w4.heap.size w5.heap.size rn ra rb (pre ++ [x]) w')) ?start (AllAt.all ?steps) ?ends
    case start => exact ⟨fun e => (by cases e), fun e => (by cases e), fun e => (by cases e), fun e => (by cases e), fun e => (by cases e), fun e => (by cases e), fun e => (by cases e), fun e => (by cases e), fun e => (by cases e), fun _ => Below.refl _ _, fun e => (by cases e), fun e => (by cases e), fun e => (by cases e), fun e => (by cases e)⟩
    case ends =>
      intro L f wz hJ hall
      exact hJ.wE (hall 9 (by decide))
    case steps =>
      refine AllAt.cons 1 ?s0 (AllAt.cons 2 ?s1 (AllAt.cons 3 ?s2 (AllAt.cons 4 ?s3 (AllAt.cons 5 ?s4 (AllAt.cons 6 ?s5 (AllAt.cons 7 ?s6 (AllAt.cons 8 ?s7 (AllAt.cons 9 ?s8 (AllAt.cons 10 ?s9 AllAt.nil rfl) rfl) rfl) rfl) rfl) rfl) rfl) rfl) rfl) rfl
      case s0 =>
        intro L f a wz hJ hLi hdep hv h0 K hK
        have e11 : a.eval (.tmp 11) = .pointer (some ⟨w4.heap.size, 0, none⟩) := (h0 11 (noDst_spec (by kernel_rfl))).trans rfl
        refine step_val rfl (v := .pointer (some ⟨w4.heap.size, 3, none⟩)) (w' := wz) ?_ (hK _ _ ⟨fun _ => rfl, hJ.v1, hJ.v2, hJ.v3, hJ.v4, hJ.v8, hJ.d6, hJ.d7, hJ.d9, hJ.wA, hJ.wB, hJ.wC, hJ.wD, hJ.wE⟩)
        clear hJ hdep hv h0 hK
        generalize a.eval = ρ at *
        simp [go_sem, execOp, *]
      case s1 =>
        intro L f a wz hJ hLi hdep hv h0 K hK
        have hL0 := hdep 0 (List.mem_of_elem_eq_true (by kernel_rfl))
        have e36 := (hv 0 36 rfl hL0).trans (hJ.v0 hL0)
        have h7 : L 7 = false := by
          cases e : L 7 with
          | false => rfl
          | true => exact (bFalse hLi (hJ.d7 e).2).elim
        have c3 : wz.cell? ⟨w4.heap.size, 3, none⟩ = some (.slice au npre cu) := by
          cases e6 : L 6 with
          | true =>
            obtain ⟨W4, n, a, b, -, hb, rfl, -⟩ := hJ.wC e6 h7
            exact (HCE.out W4 hb).2 _
          | false =>
            cases e5 : L 5 with
            | false => exact (HCE.out wz (hJ.wA e5)).1
            | true => exact (HCE.out wz (hJ.wB e5 e6).1).1
        refine step_val rfl (v := .slice au npre cu) (w' := wz) ?_ (hK _ _ ⟨hJ.v0, fun _ => rfl, hJ.v2, hJ.v3, hJ.v4, hJ.v8, hJ.d6, fun e => ⟨(hJ.d7 e).1, rfl⟩, hJ.d9, hJ.wA, hJ.wB, hJ.wC, hJ.wD, hJ.wE⟩)
        clear hJ hdep hv h0 hK
        generalize a.eval = ρ at *
        simp [go_sem, execOp, *]
      case s2 =>
        intro L f a wz hJ hLi hdep hv h0 K hK
        have e12 : a.eval (.tmp 12) = .string x := (h0 12 (noDst_spec (by kernel_rfl))).trans rfl
        refine step_val rfl (v := .string x) (w' := wz) ?_ (hK _ _ ⟨hJ.v0, hJ.v1, fun _ => rfl, hJ.v3, hJ.v4, hJ.v8, hJ.d6, hJ.d7, hJ.d9, hJ.wA, hJ.wB, hJ.wC, hJ.wD, hJ.wE⟩)
        clear hJ hdep hv h0 hK
        generalize a.eval = ρ at *
        simp [go_sem, execOp, *]
      case s3 =>
        intro L f a wz hJ hLi hdep hv h0 K hK
        have hL2 := hdep 2 (List.mem_of_elem_eq_true (by kernel_rfl))
        have e38 := (hv 2 38 rfl hL2).trans (hJ.v2 hL2)
        have eC : a.eval (.const (.string ⟨#[41]⟩)) = .string ⟨#[41]⟩ := rfl
        have eF : a.eval (.func 26) = .func (.func 26) #[] #[] := rfl
        have eE : ∀ args w, (callFunc 26 args).run Tryz.prog w = .ok (.enter 26 args) w := fun _ _ => rfl
        refine step_call rfl (fn := 26) (args := #[.string x, .string ⟨#[41]⟩]) (w' := wz) (R := fun v w'' => v = .string tx ∧ w'' = wz) ?_ ((HTS.out wz).mono (fun e w'' h => ⟨_, h.1, rfl, h.2⟩)) (fun v w'' h => ?_)
        · clear hJ hdep hv h0 hK
          generalize a.eval = ρ at *
          simp [go_sem, execOp, *]
        · obtain ⟨rfl, rfl⟩ := h
          exact hK _ _ ⟨hJ.v0, hJ.v1, hJ.v2, fun _ => rfl, hJ.v4, hJ.v8, hJ.d6, hJ.d7, hJ.d9, hJ.wA, hJ.wB, hJ.wC, hJ.wD, hJ.wE⟩
      case s4 =>
        intro L f a wz hJ hLi hdep hv h0 K hK
        have hL3 := hdep 3 (List.mem_of_elem_eq_true (by kernel_rfl))
        have e39 := (hv 3 39 rfl hL3).trans (hJ.v3 hL3)
        have eC : a.eval (.const (.string ⟨#[41]⟩)) = .string ⟨#[41]⟩ := rfl
        refine step_val rfl (v := .string (tx ++ ⟨#[41]⟩)) (w' := wz) ?_ (hK _ _ ⟨hJ.v0, hJ.v1, hJ.v2, hJ.v3, fun _ => rfl, hJ.v8, hJ.d6, hJ.d7, hJ.d9, hJ.wA, hJ.wB, hJ.wC, hJ.wD, hJ.wE⟩)
        clear hJ hdep hv h0 hK
        generalize a.eval = ρ at *
        simp [go_sem, execOp, *]
      case s5 =>
        intro L f a wz hJ hLi hdep hv h0 K hK
        have hL4 := hdep 4 (List.mem_of_elem_eq_true (by kernel_rfl))
        have e40 := (hv 4 40 rfl hL4).trans (hJ.v4 hL4)
        have eF : a.eval (.func 24) = .func (.func 24) #[] #[] := rfl
        have eE : ∀ args w, (callFunc 24 args).run Tryz.prog w = .ok (.enter 24 args) w := fun _ _ => rfl
        have hb := hJ.wA hLi
        refine step_call rfl (fn := 24) (args := #[.string (tx ++ (⟨#[41]⟩ : ByteArray))]) (w' := wz) (R := fun v w'' => ∃ n a b, v = .agg #[.string n, .string a, .string b] ∧ (⟨n, a, b⟩ : Fct) = rdp x ∧ Below wz.heap.size wz w'') ?_ ((HRX.out wz (below_mem hb _ _ _ HM3.out)).mono (fun e w'' ⟨n, a, b, h1, h2, h3⟩ => ⟨_, h1, n, a, b, rfl, h2, h3⟩)) (fun v w'' h => ?_)
        · clear hJ hdep hv h0 hK
          generalize tx ++ (⟨#[41]⟩ : ByteArray) = ty at *
          generalize a.eval = ρ at *
          simp [go_sem, execOp, *]
        · obtain ⟨n, a', b, rfl, hh, hb2⟩ := h
          exact hK _ _ ⟨hJ.v0, hJ.v1, hJ.v2, hJ.v3, hJ.v4, hJ.v8, fun _ => rfl, hJ.d7, hJ.d9, fun e => (by cases e), fun _ _ => ⟨pure_trans hb hb2, n, a', b, rfl, hh⟩, fun e => (bFalse hLi (hJ.d6 e)).elim, fun e => (bFalse hLi (hJ.d6 (hJ.d7 e).1)).elim, fun e => (bFalse hLi (hJ.d6 (hJ.d7 (hJ.d9 e)).1)).elim⟩
      case s6 =>
        intro L f a wz hJ hLi hdep hv h0 K hK
        have hL5 := hdep 5 (List.mem_of_elem_eq_true (by kernel_rfl))
        obtain ⟨hb, n, a', b, hf5, hh⟩ := hJ.wB hL5 hLi
        have e41 := (hv 5 41 rfl hL5).trans hf5
        refine step_val rfl (v := .slice (some ⟨wz.heap.size, 0, none⟩) 1 1) (w' := wz.alloc (.cells #[.string n, .string a', .string b] 25)) ?_ (hK _ _ ⟨hJ.v0, hJ.v1, hJ.v2, hJ.v3, hJ.v4, hJ.v8, fun _ => hL5, fun e => ⟨rfl, (hJ.d7 e).2⟩, hJ.d9, fun e => (bFalse e hL5).elim, fun _ e => (by cases e), fun _ _ => ⟨wz, n, a', b, hh, hb, rfl, rfl⟩, fun e => (bFalse hLi (hJ.d7 e).1).elim, fun e => (bFalse hLi (hJ.d7 (hJ.d9 e)).1).elim⟩)
        clear hJ hdep hv h0 hK
        generalize a.eval = ρ at *
        simp [go_sem, execOp, *]
      case s7 =>
        intro L f a wz hJ hLi hdep hv h0 K hK
        have hL1 := hdep 1 (List.mem_of_elem_eq_true (by kernel_rfl))
        have hL6 := hdep 6 (List.mem_of_elem_eq_true (by kernel_rfl))
        obtain ⟨W4, n, a', b, hh, hb, rfl, hf6⟩ := hJ.wC hL6 hLi
        have e37 := (hv 1 37 rfl hL1).trans (hJ.v1 hL1)
        have e42 := (hv 6 42 rfl hL6).trans hf6
        obtain ⟨a7, c7, w7, hrun, ⟨hc7, hf7⟩, hfin⟩ := HFIN.out W4 hb n a' b hh
        refine step_val rfl (v := .slice a7 (pre.length + 1) c7) (w' := w7) ?_ (hK _ _ ⟨hJ.v0, hJ.v1, hJ.v2, hJ.v3, hJ.v4, hJ.v8, hJ.d6, fun _ => ⟨hL6, hL1⟩, fun _ => rfl, fun e => (bFalse e (hJ.d6 hL6)).elim, fun _ e => (bFalse e hL6).elim, fun _ e => (by cases e), fun _ _ => ⟨a7, c7, rfl, hc7, hf7, hfin⟩, fun e => (bFalse hLi (hJ.d9 e)).elim⟩)
        clear hJ hdep hv h0 hK
        generalize a.eval = ρ at *
        simp only [execOp, resolve, invoke, builtin, Sem.run_bind, Sem.run_pure, Result.andThen_ok, List.map_toArray, List.map_cons, List.map_nil, e37, e42, hrun]
      case s8 =>
        intro L f a wz hJ hLi hdep hv h0 K hK
        have e11 : a.eval (.tmp 11) = .pointer (some ⟨w4.heap.size, 0, none⟩) := (h0 11 (noDst_spec (by kernel_rfl))).trans rfl
        refine step_val rfl (v := .pointer (some ⟨w4.heap.size, 3, none⟩)) (w' := wz) ?_ (hK _ _ ⟨hJ.v0, hJ.v1, hJ.v2, hJ.v3, hJ.v4, fun _ => rfl, hJ.d6, hJ.d7, hJ.d9, hJ.wA, hJ.wB, hJ.wC, hJ.wD, hJ.wE⟩)
        clear hJ hdep hv h0 hK
        generalize a.eval = ρ at *
        simp [go_sem, execOp, *]
      case s9 =>
        intro L f a wz hJ hLi hdep hv h0 K hK
        have hL7 := hdep 7 (List.mem_of_elem_eq_true (by kernel_rfl))
        have hL8 := hdep 8 (List.mem_of_elem_eq_true (by kernel_rfl))
        obtain ⟨a7, c7, hf, hc, hfr, hfin⟩ := hJ.wD hL7 hLi
        have e43 := (hv 7 43 rfl hL7).trans hf
        have e44 := (hv 8 44 rfl hL8).trans (hJ.v8 hL8)
        refine step_skip rfl (w' := wz.setCell ⟨w4.heap.size, 3, none⟩ (.slice a7 (pre.length + 1) c7)) ?_ (hK _ _ ⟨hJ.v0, hJ.v1, hJ.v2, hJ.v3, hJ.v4, hJ.v8, hJ.d6, hJ.d7, fun _ => hL7, fun e => (bFalse e (hJ.d6 (hJ.d7 hL7).1)).elim, fun _ e => (bFalse e (hJ.d7 hL7).1).elim, fun _ e => (bFalse e hL7).elim, fun _ e => (by cases e), fun _ => hfin⟩)
        clear hJ hdep hv h0 hK
        generalize a.eval = ρ at *
        simp [go_sem, execOp, *]
  case done =>
    clear hread HSA HSZ
    intro D W7 hDl hI hD
    obtain ⟨hkp7, u, c7, o7⟩ := hI
    obtain ⟨au, cu, rfl, hml⟩ := o7.len
    have hok : okF ⟨rn, ra, rb⟩ := by rw [HHD.out]; exact readA_ok _ (by show head.size ≤ _; omega)
    have hbw7 : Below w1.heap.size w1 W7 := HBS6.out.trans (hkp7.below HBS6.out.size (fun k e => by have := HX6.out; omega))
    have HB7 := Lib.hid (pure_trans H2.out.bl' hbw7)
    have HOWN := Lib.hid (H2.out.own.keeps hbw7)
    have HVLT := Lib.hid (fun k h => (H2.out.own.lt k h).2)
    have HMK0 := Lib.hid (show Marks W.heap.size ds W7 from by
      refine (H2.out.mks.keeps (below_keeps HBS6.out) (fun q o e ho => ?_)).keeps hkp7 (fun q o e ho => ?_)
      · have := (Array.getElem?_eq_some_iff.1 ho).1; omega
      · rcases e with e | e | e
        · subst e; rw [HR6.out] at ho; cases ho; simp
        · subst e; intro h; subst h; exact absurd ho (by rw [HBSC.out]; simp)
        · have := (Array.getElem?_eq_some_iff.1 ho).1; omega)
    have HMK := Lib.hid (show Marks W.heap.size ({ target := .collected D, args := #[] } :: ds) W7 from
      Marks.cons (n := w6.heap.size) HMK0.out (by have := HB6.out.size; omega) hD (fun d hd E hE => by
        have h1 := (H2.out.mks.keeps (below_keeps HBS6.out) (fun q o e ho => by have := (Array.getElem?_eq_some_iff.1 ho).1; omega)).lt d hd E hE
        exact h1) hDl)
    have k0 : W7.cell? ⟨w4.heap.size, 0, none⟩ = some (.string rn) := mem_cells c7 0
    have k1 : W7.cell? ⟨w4.heap.size, 1, none⟩ = some (.string ra) := mem_cells c7 1
    have k2 : W7.cell? ⟨w4.heap.size, 2, none⟩ = some (.string rb) := mem_cells c7 2
    have k3 : W7.cell? ⟨w4.heap.size, 3, none⟩ = some (.slice au (ps.map rdp).length cu) := mem_cells c7 3
    have HC7 := Lib.hid c7
    have HVR := Lib.hid (ringRule_any ⟨⟨rn, ra, rb⟩, ps.map rdp⟩ (.slice au (ps.map rdp).length cu) W7 hok o7.rv')
    have HLI := Lib.hid (fun (h : validR ⟨⟨rn, ra, rb⟩, ps.map rdp⟩ = true) (w' : World) (hb : Below W7.heap.size W7 w') => ringLine_any ⟨⟨rn, ra, rb⟩, ps.map rdp⟩ (.slice au (ps.map rdp).length cu) w' h (tFcts.mono _ _ _ _ (below_mem hb) o7.rv'))
    have HRV := Lib.hid (o7.rv (S := fun b => w6.heap.size ≤ b) (fun b hb => hb) (fun _ _ _ h => h))
    have HOK := Lib.hid hok
    have HERR := Lib.hid (show ∀ n : Nat, n = rs.length → (ended = false ∨ lineR (bl first) = none ∨ 12 ≤ rs.length) → parsL t.size (bl t) [] = (none, n) from fun n hn h => by
      obtain ⟨g, hg, h2⟩ := H2.out.rd
      have hT1 : 1 ≤ T.size := by
        have : (bl T).length ≠ 0 := fun e => HTN.out (List.length_eq_zero_iff.1 e)
        rw [HTL.out] at this; omega
      obtain ⟨g', rfl⟩ : ∃ g', g = g' + 1 := ⟨g - 1, by omega⟩
      rw [h2, HBD.out g' h, hn])
    have HSIX := Lib.hid (show W.heap.size ≤ w6.heap.size ∧ w1.heap.size ≤ w6.heap.size ∧ w6.heap.size ≤ W7.heap.size from ⟨HB6.out.size, HBS6.out.size, hkp7.size⟩)
    have hfirst : first.size ≤ 65536 := hfz
    have H12 := Lib.hid H2.out.le
    generalize hbd : ps.map rdp = bd at *
    clear hbd o7 c7 hml hok hbw7 hkp7 hD HBD HB6 HBS6 HR6 hem HLEN
    cases ended with
    | false =>
      have HE := Lib.hid (HERR.out _ rfl (.inl rfl))
      go_wp2_with fail
      exact parse_leave rfl rfl rfl rfl HMK.out HB7.out (fun WF hb hmm => ⟨hb, .inr (.inr ⟨H64.out, _, HE.out, rfl⟩)⟩)
    | true =>
    have HR5 := Lib.hid (HCL.out rfl)
    go_wp2_with fail
    refine HVR.out.mono ?_
    rintro e w8 ⟨rfl, hb8⟩
    have HB8 := Lib.hid (pure_trans HB7.out hb8)
    have HK8 := Lib.hid hb8
    have m0 : w8.cell? ⟨w4.heap.size, 0, none⟩ = some (.string rn) := below_mem hb8 _ _ _ k0
    have m1 : w8.cell? ⟨w4.heap.size, 1, none⟩ = some (.string ra) := below_mem hb8 _ _ _ k1
    have m2 : w8.cell? ⟨w4.heap.size, 2, none⟩ = some (.string rb) := below_mem hb8 _ _ _ k2
    have m3 : w8.cell? ⟨w4.heap.size, 3, none⟩ = some (.slice au bd.length cu) := below_mem hb8 _ _ _ k3
    have HMK8 := Lib.hid (HMK.out.keeps (below_keeps hb8) (fun q o e ho => by have := (Array.getElem?_eq_some_iff.1 ho).1; omega))
    clear hb8 HVR k0 k1 k2 k3
    cases hvr : validR ⟨⟨rn, ra, rb⟩, bd⟩ with
    | false =>
      have HE := Lib.hid (HERR.out _ rfl (.inr (.inl (by rw [HLN.out, hvr]; simp))))
      clear hvr
      go_wp2_with fail
      exact parse_leave rfl rfl rfl rfl HMK8.out HB8.out (fun WF hb hmm => ⟨hb, .inr (.inr ⟨H64.out, _, HE.out, rfl⟩)⟩)
    | true =>
    have HLQ := Lib.hid (HLI.out hvr w8 HK8.out)
    have HVT := Lib.hid hvr
    clear hvr HLI
    go_wp2_with fail
    refine HLQ.out.mono ?_
    rintro e w9 ⟨s9, rfl, hs9, hb9⟩
    have HK9 := Lib.hid (pure_trans HK8.out hb9)
    have HB9 := Lib.hid (pure_trans HB7.out HK9.out)
    have n0 : w9.cell? ⟨w4.heap.size, 0, none⟩ = some (.string rn) := below_mem hb9 _ _ _ m0
    have n1 : w9.cell? ⟨w4.heap.size, 1, none⟩ = some (.string ra) := below_mem hb9 _ _ _ m1
    have n2 : w9.cell? ⟨w4.heap.size, 2, none⟩ = some (.string rb) := below_mem hb9 _ _ _ m2
    have n3 : w9.cell? ⟨w4.heap.size, 3, none⟩ = some (.slice au bd.length cu) := below_mem hb9 _ _ _ m3
    have HMK9 := Lib.hid (HMK8.out.keeps (below_keeps hb9) (fun q o e ho => by have := (Array.getElem?_eq_some_iff.1 ho).1; omega))
    clear hb9 HLQ m0 m1 m2 m3
    have hno : ¬ 9223372036854775807 < first.size + 1 := by omega
    by_cases heq : ruleL ⟨⟨rn, ra, rb⟩, bd⟩ = bl first
    · obtain rfl : s9 = first ++ (⟨#[10]⟩ : ByteArray) := bl_inj (by
        show bl s9 = bl (first ++ (⟨#[10]⟩ : ByteArray))
        rw [hs9, heq, bl_append]; rfl)
      have HLS := Lib.hid (show lineR (bl first) = some ⟨⟨rn, ra, rb⟩, bd⟩ from by rw [HLN.out, if_pos ⟨HVT.out, heq⟩])
      clear hs9 heq
      by_cases h12 : rs.length = 12
      · have HE := Lib.hid (HERR.out 12 h12.symm (.inr (.inr (by omega))))
        go_wp2_with fail
        exact parse_leave rfl rfl rfl rfl HMK9.out HB9.out (fun WF hb hmm => ⟨hb, .inr (.inr ⟨H64.out, _, HE.out, rfl⟩)⟩)
      · have h12b : ((rs.length : Int) == 12) = false := by rw [beq_eq_false_iff_ne]; omega
        have HOX := Lib.hid (show ∀ o, OwnsD tRul (W.heap.size ≤ ·) (w9.alloc o) W.heap.size 28 (.slice av rs.length cv) rs from fun o => HOWN.out.keeps (pure_trans HK9.out (boxB w9 o)))
        have HY := Lib.hid (show (tSlice tRul).rv ((mem (w9.alloc (.cells #[.string rn, .string ra, .string rb, .slice au bd.length cu] 28))).on (fun b => (W.heap.size ≤ b) ∧ some b ≠ (Value.slice av rs.length cv).ownBlock)) [.slice (some ⟨w9.heap.size, 0, none⟩) 1 1] [⟨⟨rn, ra, rb⟩, bd⟩] from by
          have hsz9 : W7.heap.size ≤ w9.heap.size := HK9.out.size
          have hss := HSIX.out
          refine slice_one (cs := [.string rn, .string ra, .string rb, .slice au bd.length cu]) (fun j z hj => ?_) ⟨_, rfl, HOK.out, tFcts.mono _ _ _ _ (fun b o z e => ?_) HRV.out⟩
          · refine Mem.on_some ((mem_cells (heap_alloc_new w9 (.cells #[.string rn, .string ra, .string rb, .slice au bd.length cu] 28)) (0 + j)).trans (by rw [Nat.zero_add]; simpa using hj)) ⟨by omega, fun e => ?_⟩
            have := HVLT.out _ e.symm
            omega
          · obtain ⟨hs, e⟩ := Mem.of_on e
            refine Mem.on_some (below_mem (pure_trans HK9.out (boxB w9 _)) _ _ _ e) ⟨by omega, fun e2 => ?_⟩
            have := HVLT.out _ e2.symm
            omega)
        have HNX := Lib.hid (fun v' w10 own10 hg => PSt.next (first := first) (w6 := w6) (D := D) (u := v') (rest := rest) (v' := v') (w10 := w10) (r := ⟨⟨rn, ra, rb⟩, bd⟩) (ds := { target := .collected D, args := #[] } :: ds) ⟨H2.out.rd, H2.out.sz, H2.out.le, HOWN.out, HMK.out, HB7.out⟩ HMK.out HK9.out HB9.out (.cells #[.string rn, .string ra, .string rb, .slice au bd.length cu] 28) (HOX.out _) own10 hg (fun g _ => HGD.out g _ trivial HLS.out (by have := H12.out; omega)) (by have := HR5.out; rw [HTL.out, show (bl rest).length = rest.size from rfl] at this; exact this) (by have := H12.out; omega))
        go_wp2_with (at_builtin; refine wpList_append_d rfl _ _ 22 rfl tRul tRul_one Tryz.underlying22 infoRul rfl (by decide) (W.heap.size ≤ ·) W.heap.size _ rs [⟨⟨rn, ra, rb⟩, bd⟩] rfl (HOX.out _) _ _ _ rfl rfl HY.out (by have := H12.out; unfold maxLen; simp; omega) (by have := H12.out; simp; omega) (by have := HB9.out.size; simp; omega) ?_)
        intro v' w10 own10 hgrow _
        have HP := Lib.hid (HNX.out v' w10 own10 hgrow)
        clear own10 hgrow HNX
        obtain ⟨a10, c10, rfl, -⟩ := HP.out.own.len
        go_wp2_with fail
        rw [HI.out, HMU.out]
        exact ⟨⟨_, _, _, _, _, _, _, _, _, _, _, _, _, _, _, _, _, _, _, _, _, _, _, _, _, _, _, _, _, _, _, _, _, _, _, _, _, _, _, _, _, _, _, _, _, _, _, _, _, _, _, _, _, _, _, _, _, _, _, _, _, _, _, _, _, _, _, _, rest, _, _, _, rfl, HP⟩, by have := HR5.out; rw [HTL.out, show (bl rest).length = rest.size from rfl] at this; simp [strSz]; omega⟩
    · have HE := Lib.hid (HERR.out _ rfl (.inr (.inl (by rw [HLN.out, if_neg (fun h => heq h.2)]))))
      have hne : (s9.toList == (first ++ (⟨#[10]⟩ : ByteArray)).toList) = false := by
        rw [strEqB]
        refine decide_eq_false (fun e => heq ?_)
        have h1 : bl s9 = bl first ++ [10] := by rw [e, bl_append]; rfl
        rw [hs9] at h1
        exact List.append_cancel_right h1
      clear hs9 heq
      go_wp2_with fail
      exact parse_leave rfl rfl rfl rfl HMK9.out HB9.out (fun WF hb hmm => ⟨hb, .inr (.inr ⟨H64.out, _, HE.out, rfl⟩)⟩)
end Go.Proofs.YtafeaeaildfohaaGreatDoor
/- A line found byte by byte (for RingTexts). -/
namespace Go.Proofs.YtafeaeaildfohaaGreatDoor
open Go.RowKit Go.Maps

theorem cut_scan {T : List UInt8} {k e : Nat} (hk : k ≤ e) (he : e < T.length) (h : ∀ j, k ≤ j → (hj : j < e) → T[j]'(by omega) ≠ 10) (h10 : T[e] = 10) : Lib.cut (T.drop k) [10] = ((T.drop k).take (e - k), T.drop (e + 1), true) := by
  have h1 : T.drop k = (T.drop k).take (e - k) ++ ([10] ++ T.drop (e + 1)) := by
    have h2 : (T.drop k).drop (e - k) = 10 :: T.drop (e + 1) := by
      rw [List.drop_drop, show k + (e - k) = e by omega, List.drop_eq_getElem_cons he, h10]
    conv => lhs; rw [← List.take_append_drop (e - k) (T.drop k), h2]
    rfl
  have hn : ∀ x ∈ (T.drop k).take (e - k), x ≠ 10 := fun x hx => by
    obtain ⟨i, hi, rfl⟩ := List.getElem_of_mem hx
    rw [List.length_take, List.length_drop] at hi
    rw [List.getElem_take, List.getElem_drop]
    exact h (k + i) (by omega) (by omega)
  have hc := cut_of (index_at 10 [] hn (T.drop (e + 1)))
  rw [← h1] at hc
  exact hc
theorem cut_scan_end {T : List UInt8} {k : Nat} (h : ∀ j, k ≤ j → (hj : j < T.length) → T[j] ≠ 10) : Lib.cut (T.drop k) [10] = (T.drop k, [], false) := by
  have hn : ∀ x ∈ T.drop k, x ≠ 10 := fun x hx => by
    obtain ⟨i, hi, rfl⟩ := List.getElem_of_mem hx
    rw [List.length_drop] at hi
    rw [List.getElem_drop]
    exact h (k + i) (by omega) (by omega)
  unfold Lib.cut
  rw [if_neg (by rw [index_no 10 [] hn]; omega)]
end Go.Proofs.YtafeaeaildfohaaGreatDoor
/- The relations that lead to themselves: plain (for RingTexts). -/
namespace Go.Proofs.YtafeaeaildfohaaGreatDoor
open Go.RowKit Go.Maps

/-- What a relation leads to, in the rules' order. -/
def succN : List Rul → ByteArray → List ByteArray
  | [], _ => []
  | r :: rs, n => (if r.hd.n = n then r.bd.map (·.n) else []) ++ succN rs n
theorem succN_append (a b : List Rul) (n : ByteArray) : succN (a ++ b) n = succN a n ++ succN b n := by
  induction a with
  | nil => rfl
  | cons r a ih => simp only [List.cons_append, succN, ih, List.append_assoc]
theorem succN_mem {l : List Rul} {n m : ByteArray} : m ∈ succN l n ↔ ∃ r ∈ l, r.hd.n = n ∧ ∃ a ∈ r.bd, a.n = m := by
  induction l with
  | nil => simp [succN]
  | cons r l ih =>
    simp only [succN, List.mem_append, ih, List.mem_cons]
    constructor
    · rintro (h | ⟨q, hq, h1, h2⟩)
      · split at h
        · next e => 
          obtain ⟨a, ha, e2⟩ := List.mem_map.1 h
          exact ⟨r, .inl rfl, e, a, ha, e2⟩
        · cases h
      · exact ⟨q, .inr hq, h1, h2⟩
    · rintro ⟨q, rfl | hq, h1, a, ha, h2⟩
      · exact .inl (by rw [if_pos h1]; exact List.mem_map.2 ⟨a, ha, h2⟩)
      · exact .inr ⟨q, hq, h1, a, ha, h2⟩
/-- One or more steps. -/
inductive Path (l : List Rul) : ByteArray → ByteArray → Prop
  | one {n m : ByteArray} : m ∈ succN l n → Path l n m
  | more {n m k : ByteArray} : Path l n m → k ∈ succN l m → Path l n k
theorem Path.trans {l : List Rul} {a b c : ByteArray} (h : Path l a b) (k : Path l b c) : Path l a c := by
  induction k with
  | one h2 => exact .more h h2
  | more _ h2 ih => exact .more ih h2
theorem path_closed {l : List Rul} {s : ByteArray} {M : ByteArray → Prop} (h0 : ∀ m ∈ succN l s, M m) (hc : ∀ x, M x → ∀ m ∈ succN l x, M m) : ∀ x, Path l s x → M x := fun x h => by
  induction h with
  | one h => exact h0 _ h
  | more _ h ih => exact hc _ ih _ h
/-- What a walk from s adds to what is met, when it has gone through pre of what s leads to. -/
structure Walked (l : List Rul) (s : ByteArray) (pre : List ByteArray) (M M' : ByteArray → Prop) : Prop where
  old : ∀ x, M x → M' x
  way : ∀ x, M' x → ¬ M x → Path l s x
  all : ∀ m ∈ pre, M' m
  cls : ∀ x, M' x → ¬ M x → ∀ m ∈ succN l x, M' m
section
variable {l : List Rul} {s t : ByteArray} {pre : List ByteArray} {M M' M'' : ByteArray → Prop}
theorem Walked.start (l : List Rul) (s : ByteArray) (M : ByteArray → Prop) : Walked l s [] M M := ⟨fun _ h => h, fun _ h h' => absurd h h', by simp, fun _ h h' => absurd h h'⟩
theorem Walked.skip (h : Walked l s pre M M') (ht : M' t) : Walked l s (pre ++ [t]) M M' :=
  ⟨h.old, h.way, fun m hm => by
    rcases List.mem_append.1 hm with hm | hm
    · exact h.all m hm
    · simp at hm; subst hm; exact ht, h.cls⟩
theorem Walked.step (h : Walked l s pre M M') (hs : t ∈ succN l s) (hw : Walked l t (succN l t) (fun x => M' x ∨ x = t) M'') : Walked l s (pre ++ [t]) M M'' := by
  refine ⟨fun x hx => hw.old x (.inl (h.old x hx)), fun x hx hn => ?_, fun m hm => ?_, fun x hx hn m hm => ?_⟩
  · by_cases h1 : M' x
    · exact h.way x h1 hn
    · by_cases h2 : x = t
      · subst h2; exact .one hs
      · exact (Path.one hs).trans (hw.way x hx (fun e => e.elim h1 h2))
  · rcases List.mem_append.1 hm with hm | hm
    · exact hw.old m (.inl (h.all m hm))
    · simp at hm; subst hm; exact hw.old m (.inr rfl)
  · by_cases h1 : M' x
    · exact hw.old m (.inl (h.cls x h1 hn m hm))
    · by_cases h2 : x = t
      · subst h2; exact hw.all m hm
      · exact hw.cls x hx (fun e => e.elim h1 h2) m hm
/-- A walk from nothing meets what can be reached. -/
theorem Walked.done (h : Walked l s (succN l s) (fun _ => False) M') (x : ByteArray) : M' x ↔ Path l s x :=
  ⟨fun hx => h.way x hx (fun e => e), path_closed h.all (fun y hy m hm => h.cls y hy (fun e => e) m hm) x⟩
end
/-- A walk in breadth: what was seen, what is still to be gone through. -/
structure Wide (l : List Rul) (s : ByteArray) (seen next : List ByteArray) : Prop where
  way : ∀ x ∈ seen, Path l s x
  from' : ∀ x ∈ next, x = s ∨ x ∈ seen
  cls : ∀ x, x = s ∨ x ∈ seen → x ∈ next ∨ ∀ m ∈ succN l x, m ∈ seen
theorem Wide.start (l : List Rul) (s : ByteArray) : Wide l s [] [s] := ⟨by simp, by simp, fun x hx => .inl (by simpa using hx)⟩
theorem Wide.done {l : List Rul} {s : ByteArray} {seen : List ByteArray} (h : Wide l s seen []) (x : ByteArray) : x ∈ seen ↔ Path l s x :=
  ⟨h.way x, path_closed (M := fun x => x ∈ seen) (fun m hm => by
    rcases h.cls s (.inl rfl) with h | h
    · cases h
    · exact h m hm) (fun y hy m hm => by
    rcases h.cls y (.inr hy) with h | h
    · cases h
    · exact h m hm) x⟩
/-- In the midst of one name: pre of what it leads to is seen. -/
structure WideIn (l : List Rul) (s now : ByteArray) (pre seen next : List ByteArray) : Prop where
  way : ∀ x ∈ seen, Path l s x
  from' : ∀ x ∈ next, x = s ∨ x ∈ seen
  cls : ∀ x, x = s ∨ x ∈ seen → x = now ∨ x ∈ next ∨ ∀ m ∈ succN l x, m ∈ seen
  now : now = s ∨ now ∈ seen
  all : ∀ m ∈ pre, m ∈ seen
section
variable {l : List Rul} {s now t : ByteArray} {pre seen next : List ByteArray}
theorem Wide.enter (h : Wide l s seen (now :: next)) : WideIn l s now [] seen next :=
  ⟨h.way, fun x hx => h.from' x (List.mem_cons_of_mem _ hx), fun x hx => by
    rcases h.cls x hx with h | h
    · rcases List.mem_cons.1 h with e | e
      · exact .inl e
      · exact .inr (.inl e)
    · exact .inr (.inr h), h.from' now List.mem_cons_self, by simp⟩
theorem WideIn.skip (h : WideIn l s now pre seen next) (ht : t ∈ seen) : WideIn l s now (pre ++ [t]) seen next :=
  ⟨h.way, h.from', h.cls, h.now, fun m hm => by
    rcases List.mem_append.1 hm with hm | hm
    · exact h.all m hm
    · simp at hm; subst hm; exact ht⟩
theorem WideIn.add (h : WideIn l s now pre seen next) (ht : t ∈ succN l now) : WideIn l s now (pre ++ [t]) (seen ++ [t]) (next ++ [t]) := by
  have hp : Path l s t := by
    rcases h.now with e | e
    · rw [e] at ht; exact .one ht
    · exact .more (h.way _ e) ht
  refine ⟨fun x hx => ?_, fun x hx => ?_, fun x hx => ?_, ?_, fun m hm => ?_⟩
  · rcases List.mem_append.1 hx with hx | hx
    · exact h.way x hx
    · simp at hx; subst hx; exact hp
  · rcases List.mem_append.1 hx with hx | hx
    · exact (h.from' x hx).imp id (fun e => List.mem_append_left _ e)
    · exact .inr (List.mem_append_right _ hx)
  · by_cases hxt : x = t
    · exact .inr (.inl (List.mem_append_right _ (by simp [hxt])))
    · have hx' : x = s ∨ x ∈ seen := hx.imp id (fun e => by
        rcases List.mem_append.1 e with e | e
        · exact e
        · simp at e; exact absurd e hxt)
      rcases h.cls x hx' with e | e | e
      · exact .inl e
      · exact .inr (.inl (List.mem_append_left _ e))
      · exact .inr (.inr (fun m hm => List.mem_append_left _ (e m hm)))
  · exact h.now.imp id (fun e => List.mem_append_left _ e)
  · rcases List.mem_append.1 hm with hm | hm
    · exact List.mem_append_left _ (h.all m hm)
    · exact List.mem_append_right _ hm
theorem WideIn.leave (h : WideIn l s now (succN l now) seen next) : Wide l s seen next :=
  ⟨h.way, h.from', fun x hx => by
    rcases h.cls x hx with e | e | e
    · subst e; exact .inr h.all
    · exact .inl e
    · exact .inr e⟩
end
end Go.Proofs.YtafeaeaildfohaaGreatDoor
/- Ascending lists of names (for RingTexts). -/
namespace Go.Proofs.YtafeaeaildfohaaGreatDoor
open Go.RowKit Go.Maps

def nameC (x y : ByteArray) : Int := cmpBytes x.toList y.toList
theorem nameC_good : Good nameC := cmpBytes_good.pull (fun s : ByteArray => s.toList)
def AscB (l : List ByteArray) : Prop := l.Pairwise (fun x y => nameC x y < 0)
theorem AscB.unique {l m : List ByteArray} (h : AscB l) (k : AscB m) (e : ∀ x, x ∈ l ↔ x ∈ m) : l = m := sorted_unique nameC_good h k e
theorem AscB.filter {l : List ByteArray} (h : AscB l) (P : ByteArray → Bool) : AscB (l.filter P) := List.Pairwise.filter P h
theorem AscB.insert {l : List ByteArray} (h : AscB l) {x : ByteArray} {k : Nat} (h1 : ∀ y ∈ l.take k, nameC y x < 0) (h2 : ∀ y ∈ l.drop k, nameC x y < 0) : AscB (l.take k ++ (x :: l.drop k)) := by
  refine List.pairwise_append.2 ⟨h.take, List.pairwise_cons.2 ⟨h2, h.drop⟩, fun a ha b hb => ?_⟩
  rcases List.mem_cons.1 hb with e | e
  · rw [e]; exact h1 a ha
  · have := h1 a ha
    have := h2 b e
    have ht := nameC_good.trans a x b (by omega) (by omega)
    by_cases he : nameC a b = 0
    · have h3 : l = l.take k ++ l.drop k := (List.take_append_drop k l).symm
      have h4 : AscB (l.take k ++ l.drop k) := by rw [← h3]; exact h
      exact (List.pairwise_append.1 h4).2.2 a ha b e
    · omega
theorem insert_mem {l : List ByteArray} {x y : ByteArray} {k : Nat} : y ∈ l.take k ++ (x :: l.drop k) ↔ y = x ∨ y ∈ l := by
  conv => rhs; rw [← List.take_append_drop k l]
  simp only [List.mem_append, List.mem_cons]
  constructor
  · rintro (h | h | h)
    · exact .inr (.inl h)
    · exact .inl h
    · exact .inr (.inr h)
  · rintro (h | h | h)
    · exact .inr (.inl h)
    · exact .inl h
    · exact .inr (.inr h)
/-- The answer: the ascending list of the heads' names that lead to themselves. -/
def RecAns (l : List Rul) (out : List ByteArray) : Prop := AscB out ∧ ∀ n, n ∈ out ↔ (∃ r ∈ l, r.hd.n = n) ∧ Path l n n
theorem RecAns.unique {l : List Rul} {a b : List ByteArray} (h : RecAns l a) (k : RecAns l b) : a = b := h.1.unique k.1 (fun x => (h.2 x).trans (k.2 x).symm)
end Go.Proofs.YtafeaeaildfohaaGreatDoor
/- Maps from names to lists of names and to marks; a map's names, ascending (for ring.Recursive, seat .ZD). -/
namespace Go.Proofs.YtafeaeaildfohaaGreatDoor
open Go.RowKit Go.Maps Go.Sort Go.Shelf

theorem le_cmp : ∀ x y : List UInt8, decide (x ≤ y) = true → cmpBytes x y ≤ 0
  | [], [], _ => by decide
  | [], _ :: _, _ => by simp [cmpBytes, lexList]
  | _ :: _, [], h => by simp at h
  | a :: x, b :: y, h => by
    have h := of_decide_eq_true h
    have hc := List.cons_le_cons_iff.1 h
    rcases hc with hc | ⟨rfl, hc⟩
    · have : a.toNat < b.toNat := hc
      simp [cmpBytes, lexList, cmpInt, this]
    · have ih := le_cmp x y (decide_eq_true hc)
      have e : cmpBytes (a :: x) (a :: y) = cmpBytes x y := by simp [cmpBytes, lexList, cmpInt]
      rw [e]; exact ih
theorem zeroStrs (W : World) : (zeroValue 30).run Tryz.prog W = .ok (.slice none 0 0) W := Tryz.zeroValue30 W
theorem zeroBool (W : World) : (zeroValue 4).run Tryz.prog W = .ok (.bool false) W := Tryz.zeroValue4 W
def boolOr : Option Value → Value
  | none => .bool false
  | some v => v
section
variable {W : World} {b n : Nat} {f : ByteArray → Option Value}
theorem IM.lookN (h : IM W b n f) {x : ByteArray} (hx : x.size ≤ maxLen) : (Instr.lookup 47 (.map (some b)) (.string x) false).run Tryz.prog W = .ok (sliceOr (f x)) W := by
  obtain ⟨v, h1, h2, h3⟩ := MapOf.look h keyStr Tryz.underlying47 (zeroStrs W) (keyOf_str Tryz.underlying9 hx)
  rw [h1]
  cases hf : f x with
  | none => rw [h2 hf]; rfl
  | some a => rw [show v = a from h3 a hf]; rfl
theorem IM.putN (h : IM W b n f) (hn : n < maxLen) {x : ByteArray} (hx : x.size ≤ maxLen) (v : Value) :
    ∃ W', (Instr.mapUpdate 47 (.map (some b)) (.string x) v).run Tryz.prog W = .ok () W' ∧ IM W' b (n + 1) (putAt f x v) ∧ W.grownBy W' (some b) := by
  obtain ⟨D, hown, hsy⟩ := h
  obtain ⟨W', hrun, ho, hgr⟩ := hown.update keyStr Tryz.underlying47 hn (keyOf_str Tryz.underlying9 hx) (R := rawE) (val := v) (d := .held v) (ps := []) rfl
  have hle := grown_mem hown hgr
  exact ⟨W', hrun, ⟨_, ho, hsy.put hle hown.isMap strKey_inj (keyStr.key (keyOf_str Tryz.underlying9 hx)) rfl⟩, hgr⟩
theorem IM.lookB (h : IM W b n f) {x : ByteArray} (hx : x.size ≤ maxLen) : (Instr.lookup 52 (.map (some b)) (.string x) false).run Tryz.prog W = .ok (boolOr (f x)) W := by
  obtain ⟨v, h1, h2, h3⟩ := MapOf.look h keyStr Tryz.underlying52 (zeroBool W) (keyOf_str Tryz.underlying9 hx)
  rw [h1]
  cases hf : f x with
  | none => rw [h2 hf]; rfl
  | some a => rw [show v = a from h3 a hf]; rfl
theorem IM.putB (h : IM W b n f) (hn : n < maxLen) {x : ByteArray} (hx : x.size ≤ maxLen) (v : Value) :
    ∃ W', (Instr.mapUpdate 52 (.map (some b)) (.string x) v).run Tryz.prog W = .ok () W' ∧ IM W' b (n + 1) (putAt f x v) ∧ W.grownBy W' (some b) := by
  obtain ⟨D, hown, hsy⟩ := h
  obtain ⟨W', hrun, ho, hgr⟩ := hown.update keyStr Tryz.underlying52 hn (keyOf_str Tryz.underlying9 hx) (R := rawE) (val := v) (d := .held v) (ps := []) rfl
  have hle := grown_mem hown hgr
  exact ⟨W', hrun, ⟨_, ho, hsy.put hle hown.isMap strKey_inj (keyStr.key (keyOf_str Tryz.underlying9 hx)) rfl⟩, hgr⟩
theorem IM.names (h : IM W b n f) : ∃ D, W.ownsMap Tryz.prog 9 rawE b n D ∧ (∀ k : ByteArray, bl k ∈ strKeys D ↔ (f k).isSome = true) ∧ (strKeys D).Nodup ∧ (strKeys D).length ≤ n ∧ ∀ x ∈ strKeys D, x.length ≤ maxLen := by
  obtain ⟨D, hown, h1, h2, h3⟩ := h
  have hle := strKeys_le hown Tryz.underlying9
  obtain ⟨es, hD, hpw⟩ := hown.tidy keyStr
  have hko : ∀ p ∈ es, ∃ x, p.1 = .string x := fun p hp => by
    obtain ⟨es', hD', hko⟩ := hown.keysOf
    obtain rfl : es = es' := by rw [hD] at hD'; simpa using hD'
    obtain ⟨v, hv⟩ := hko p hp
    obtain ⟨x, _, hx, _⟩ := Maps.keyOf_str Tryz.underlying9 hv
    exact ⟨x, hx⟩
  have hsz := hown.size_le
  refine ⟨D, hown, fun k => ?_, ?_, ?_, hle⟩
  · have hh : Maps.has D (strKey k) = true ↔ bl k ∈ strKeys D := by
      subst hD
      rw [has_eq, List.any_eq_true]
      show _ ↔ bl k ∈ es.map fun p => strOf p.1
      rw [List.mem_map]
      constructor
      · rintro ⟨p, hp', hs⟩
        obtain ⟨a, ha⟩ := hko p hp'
        rw [ha] at hs
        exact ⟨p, hp', by rw [ha]; simpa [Lit.sameKey, strOf, strKey, bl] using hs⟩
      · rintro ⟨p, hp', hs⟩
        obtain ⟨a, ha⟩ := hko p hp'
        refine ⟨p, hp', ?_⟩
        rw [ha] at hs ⊢
        simpa [Lit.sameKey, strOf, strKey, bl] using hs
    rw [← hh]
    cases hf : f k with
    | none => rw [h1 k hf]; simp
    | some a => rw [(h2 k a hf).1]; simp
  · subst hD
    show (es.map fun p => strOf p.1).Nodup
    refine List.pairwise_map.2 (hpw.imp_of_mem fun {p q} hp' hq' hne e => hne ?_)
    obtain ⟨a, ha⟩ := hko p hp'
    obtain ⟨b, hb⟩ := hko q hq'
    rw [ha, hb] at e ⊢
    exact congrArg _ e
  · subst hD
    show (es.map fun p => strOf p.1).length ≤ n
    rw [List.length_map]
    exact hsz
end
theorem sortsZD (m : Nat) : AnyZ.SortsIn Tryz.prog Tryz.sorted19_ren Fence.wide m :=
  ⟨fun blk off cap ss W hH hblk hsz => callsIn_wide.2 (Tryz.slices_Sort_string blk off cap ss W hH hblk hsz),
   fun p cap W => callsIn_wide.2 (Tryz.slices_Sort_string_none p cap W)⟩
theorem keysN_any (mb : Option Nat) (W : World) : Calls Tryz.prog 20 #[.map mb] W fun e w' => e = .returned (.func (.func 39) #[] #[.pointer (some ⟨W.heap.size, 0, none⟩)]) ∧ w' = W.alloc (.cells #[.map mb] 47) :=
  (callsIn_wide (n := 5)).1 (AnyZ.keys_in Tryz.keys20 Fence.wide 5 trivial rfl mb W)
set_option maxHeartbeats 1000000 in
theorem sortedN_any (b n : Nat) (f : ByteArray → Option Value) (w : World) (h : IM w b n f) (hn : n ≤ 1000000000) :
    Calls Tryz.prog 19 #[.func (.func 39) #[] #[.pointer (some ⟨w.heap.size, 0, none⟩)]] (w.alloc (.cells #[.map (some b)] 47)) fun e w' => ∃ v ss, e = .returned v ∧ tStrs.rv ((mem w').on (w.heap.size ≤ ·)) [v] ss ∧ AscB ss ∧ (∀ k, k ∈ ss ↔ (f k).isSome = true) ∧ ss.length ≤ n ∧ Below w.heap.size w w' := by
  obtain ⟨D0, hown, hmem, hnd, hsz, hin⟩ := h.names
  have hbl := hown.lt
  have hl0 : (strKeys D0).length = Maps.size D0 := by cases D0 <;> simp [strKeys, Maps.size]
  have hseq : SeqGives Fence.wide 2 Tryz.prog 39 #[.pointer (some ⟨w.heap.size, 0, none⟩)] encStr (fun ss => ss.Perm (strKeys D0)) (Maps.size D0) (w.alloc (.cells #[.map (some b)] 47)) :=
    AnyZ.keys_gives (ρ := Tryz.keys20_ren) { Tryz.keys20 with } Fence.wide _ trivial rfl (by omega) w.heap.size b n D0 _ (by simp) (by simp) (by
      obtain ⟨es, clock, hb, Ft, hs, hD⟩ := hown
      exact ⟨es, clock, (Below.heap_alloc _ _ b hbl).trans hb, Ft, hs, hD⟩)
  have cS := AnyZ.sorted_in Tryz.sorted19 Fence.wide 5 trivial trivial trivial trivial rfl (by omega) (sortsZD _) (enters_of Tryz.func38 (by kernel_rfl) rfl) 39 #[.pointer (some ⟨w.heap.size, 0, none⟩)] trivial (enters_of Tryz.func39 (by kernel_rfl) rfl) _ _ (by rw [← hl0]; unfold maxLen; omega) (by rw [← hl0]; omega) _ hseq
  change CallsIn _ _ Tryz.prog 19 _ _ _ at cS
  refine ((callsIn_wide (n := 5)).1 cS).mono ?_
  rintro e w' ⟨v, ss, rfl, hS, hrow, _, hb⟩
  have hperm : (ss.mergeSort (fun x y => decide (x ≤ y))).Perm (strKeys D0) := (List.mergeSort_perm _ _).trans hS
  have hord := List.pairwise_mergeSort (le := fun x y : List UInt8 => decide (x ≤ y)) (fun a b c h1 h2 => by simp at *; exact List.le_trans h1 h2) (fun a b => by simp; exact List.le_total a b) ss
  have hl2 : (ss.mergeSort (fun x y => decide (x ≤ y))).length = ss.length := by simp
  rw [← hl2] at hrow
  generalize (ss.mergeSort (fun x y => decide (x ≤ y))) = qs at hperm hord hrow hl2
  have hnq : qs.Nodup := hperm.nodup_iff.2 hnd
  have hlq : (qs.map (fun l => (⟨l.toArray⟩ : ByteArray))).length ≤ n := by rw [List.length_map, hperm.length_eq]; exact hsz
  have hO : Owns tStr w' (w.alloc (.cells #[.map (some b)] 47)).heap.size 9 v (qs.map (fun l => (⟨l.toArray⟩ : ByteArray))) := by
    refine ⟨qs.map fun x => [.string ⟨x.toArray⟩], by simp, ?_, fun c hc => ?_, fun k h h' => ?_⟩
    · have e : (qs.map fun x => [Value.string ⟨x.toArray⟩]).flatten = qs.map encStr := by
        clear hperm hord hrow hlq hnq hl2
        induction qs with
        | nil => rfl
        | cons x l ih => simp [ih, encStr]
      rw [e, List.length_map]; exact hrow
    · obtain ⟨x, _, rfl⟩ := List.mem_map.1 hc; rfl
    · simp only [List.getElem_map]
      refine ⟨rfl, ?_⟩
      have h2 : k < qs.length := by simpa using h'
      have := hin _ (hperm.mem_iff.1 (List.getElem_mem h2))
      show (bl ⟨(qs[k]).toArray⟩).length ≤ _
      simpa [bl] using this
  have e0 : ∀ l : List UInt8, (⟨l.toArray⟩ : ByteArray).toList = l := fun l => by rw [ByteArray.toList_eq]
  refine ⟨v, _, rfl, hO.rv (fun k hk => by simp at hk; omega) (fun _ _ _ hk => hk), ?_, fun k => ?_, hlq, ((Below.refl _ w).alloc (Nat.le_refl _) _).trans (hb.mono (by simp))⟩
  · unfold AscB
    rw [List.pairwise_map]
    refine (hord.and hnq).imp (fun {a b} hab => ?_)
    unfold nameC
    rw [e0, e0]
    have h1 := le_cmp a b hab.1
    have h2 : cmpBytes a b ≠ 0 := fun e => hab.2 (cmpBytes_eq e)
    omega
  · rw [← hmem k, ← hperm.mem_iff, List.mem_map]
    constructor
    · rintro ⟨l, hl, rfl⟩; simpa [bl] using hl
    · intro hk; exact ⟨bl k, hk, bl_back k⟩
end Go.Proofs.YtafeaeaildfohaaGreatDoor
/- ring.Recursive's walk in depth (for RingTexts, seat .ZD). -/
namespace Go.Proofs.YtafeaeaildfohaaGreatDoor
open Go.RowKit Go.Maps

def pairsR (l : List Rul) : List (ByteArray × ByteArray) := l.flatMap fun r => r.bd.map fun a => (r.hd.n, a.n)
def toN (L : List (ByteArray × ByteArray)) (k : ByteArray) : List ByteArray := (L.filter fun p => p.1 = k).map (·.2)
theorem toN_append (a b : List (ByteArray × ByteArray)) (k : ByteArray) : toN (a ++ b) k = toN a k ++ toN b k := by unfold toN; simp
theorem toN_pairs (l : List Rul) (k : ByteArray) : toN (pairsR l) k = succN l k := by
  induction l with
  | nil => rfl
  | cons r l ih =>
    have e : pairsR (r :: l) = (r.bd.map fun a => (r.hd.n, a.n)) ++ pairsR l := by unfold pairsR; simp
    rw [e, toN_append, ih]
    have h : toN (r.bd.map fun a => (r.hd.n, a.n)) k = if r.hd.n = k then r.bd.map (·.n) else [] := by
      unfold toN
      rw [List.filter_map, List.map_map]
      by_cases h : r.hd.n = k
      · rw [if_pos h]
        have : (List.filter ((fun p : ByteArray × ByteArray => decide (p.1 = k)) ∘ fun a : Fct => (r.hd.n, a.n)) r.bd) = r.bd := List.filter_eq_self.2 (fun x _ => by simp [h])
        rw [this]; rfl
      · rw [if_neg h]
        have : (List.filter ((fun p : ByteArray × ByteArray => decide (p.1 = k)) ∘ fun a : Fct => (r.hd.n, a.n)) r.bd) = [] := List.filter_eq_nil_iff.2 (fun x _ => by simp [h])
        rw [this]; rfl
    rw [h]; rfl
theorem succN_sub {l : List Rul} {s t : ByteArray} (h : t ∈ succN l s) : t ∈ (pairsR l).map (·.2) := by
  rw [← toN_pairs] at h
  unfold toN at h
  obtain ⟨p, hp, rfl⟩ := List.mem_map.1 h
  exact List.mem_map.2 ⟨p, (List.mem_filter.1 hp).1, rfl⟩
open Classical in
/-- The names that are met. -/
noncomputable def metF (M : List ByteArray) : ByteArray → Option Value := fun x => if x ∈ M then some (.bool true) else none
theorem metF_nil : metF [] = fun _ => none := by funext x; simp [metF]
theorem metF_put (M : List ByteArray) (x : ByteArray) : putAt (metF M) x (.bool true) = metF (x :: M) := by
  funext y
  by_cases e : y = x
  · subst e; rw [putAt_same]; simp [metF]
  · rw [putAt_other _ _ e]
    unfold metF
    by_cases hm : y ∈ M
    · rw [if_pos hm, if_pos (List.mem_cons_of_mem _ hm)]
    · rw [if_neg hm, if_neg (fun h => by rcases List.mem_cons.1 h with h | h; exact e h; exact hm h)]
theorem metF_yes {M : List ByteArray} {x : ByteArray} (h : x ∈ M) : boolOr (metF M x) = .bool true := by unfold metF; rw [if_pos h]; rfl
theorem metF_no {M : List ByteArray} {x : ByteArray} (h : x ∉ M) : boolOr (metF M x) = .bool false := by unfold metF; rw [if_neg h]; rfl
open Classical in
noncomputable def unmet (U M : List ByteArray) : Nat := (U.filter fun x => decide (x ∉ M)).length
open Classical in
theorem unmet_cons {U M : List ByteArray} {t : ByteArray} (h : t ∈ U) (hn : t ∉ M) : unmet U (t :: M) < unmet U M := by
  unfold unmet
  have e : (U.filter fun x => decide (x ∉ t :: M)) = (U.filter fun x => decide (x ∉ M)).filter fun x => decide (x ≠ t) := by
    rw [List.filter_filter]
    congr 1
    funext x
    by_cases hx : x = t <;> simp [hx]
  rw [e]
  exact List.length_filter_lt_length_iff_exists.2 ⟨t, List.mem_filter.2 ⟨h, by simpa using hn⟩, by simp⟩
/-- What the walk has at hand. -/
structure WEnv (W0 : World) (l : List Rul) (nb vn vm vw mb nn : Nat) (F : ByteArray → Option Value) : Prop where
  im : IM W0 nb nn F
  rd : ∀ s, tStrs.rv (mem W0) [sliceOr (F s)] (succN l s)
  cn : W0.heap[vn]? = some (.cells #[.map (some nb)] 47 (0, 0))
  cm : W0.heap[vm]? = some (.cells #[.map (some mb)] 52 (0, 0))
  cw : W0.heap[vw]? = some (.cells #[.func (.func 21) #[] #[.pointer (some ⟨vn, 0, none⟩), .pointer (some ⟨vm, 0, none⟩), .pointer (some ⟨vw, 0, none⟩)]] 53 (0, 0))
  ne : nb ≠ mb
  mm : ∃ es c, W0.heap[mb]? = some (.map es c)
section
variable {W0 : World} {l : List Rul} {nb vn vm vw mb nn : Nat} {F : ByteArray → Option Value}
theorem WEnv.mem (h : WEnv W0 l nb vn vm vw mb nn F) {w : World} (hk : Keeps (fun k => k = mb) W0 w) : (mem W0).le (mem w) := fun b o v e => by
  obtain ⟨es, c, hm⟩ := h.mm
  have hne : b ≠ mb := fun e' => by subst e'; simp [Go.Proofs.YtafeaeaildfohaaGreatDoor.mem, World.cell?, hm] at e
  exact (mem_of_block (hk.block b (mem_lt e) hne) o).trans e
theorem WEnv.imAt (h : WEnv W0 l nb vn vm vw mb nn F) {w : World} (hk : Keeps (fun k => k = mb) W0 w) : IM w nb nn F := h.im.at (hk.block nb h.im.lt h.ne)
/-- What a walk says. -/
def WalkSays (W0 : World) (l : List Rul) (vn vm vw mb : Nat) (s : ByteArray) (M : List ByteArray) (n : Nat) (w : World) : Prop :=
  s.size ≤ maxLen → n + unmet ((pairsR l).map (·.2)) M ≤ 1000 → IM w mb n (metF M) → Keeps (fun k => k = mb) W0 w →
    Calls Tryz.prog 21 #[.string s, .pointer (some ⟨vn, 0, none⟩), .pointer (some ⟨vm, 0, none⟩), .pointer (some ⟨vw, 0, none⟩)] w fun e w' => e = .returned (.tuple #[]) ∧ ∃ M' n', IM w' mb n' (metF M') ∧ n' + unmet ((pairsR l).map (·.2)) M' ≤ n + unmet ((pairsR l).map (·.2)) M ∧ unmet ((pairsR l).map (·.2)) M' ≤ unmet ((pairsR l).map (·.2)) M ∧ Keeps (fun k => k = mb) W0 w' ∧ Walked l s (succN l s) (· ∈ M) (· ∈ M')
set_option maxRecDepth 100000 in
set_option maxHeartbeats 4000000 in
theorem walk_step (env : WEnv W0 l nb vn vm vw mb nn F) (s : ByteArray) (M : List ByteArray) (n : Nat) (w : World) (IH : ∀ s' M' n' w', unmet ((pairsR l).map (·.2)) M' < unmet ((pairsR l).map (·.2)) M → WalkSays W0 l vn vm vw mb s' M' n' w') :
    WalkSays W0 l vn vm vw mb s M n w := by
  intro hs hn hM hk
  have HIH := Lib.hid IH
  have HEV := Lib.hid env
  have HM := Lib.hid hM
  have HK := Lib.hid hk
  have hlk := (env.imAt hk).lookN hs
  have hrd := tStrs.mono _ _ _ _ (env.mem hk) (env.rd s)
  have HRD := Lib.hid (env.rd s)
  have HSUB := Lib.hid (fun t (h : t ∈ succN l s) => succN_sub h)
  obtain ⟨as', cs', hsl, hl1, hl2, -⟩ := slice_form hrd
  rw [hsl] at hlk HRD
  have hcs : cs' ≤ 9223372036854775807 := by unfold maxLen at hl2; exact hl2
  have cn : w.cell? ⟨vn, 0, none⟩ = some (.map (some nb)) := env.mem hk _ _ _ (mem_cells env.cn 0)
  have HWK0 := Lib.hid (Walked.start l s (· ∈ M))
  generalize hxs : succN l s = xs at *
  have HXS := Lib.hid hxs
  clear hxs hrd hsl IH env hM hk hl2
  go_enter Tryz.func21, Tryz.ntmps21
  go_wp2_with fail
  clear hlk cn
  go_loopw [11] (fun i wr => ∃ (k : Nat) (M' : List ByteArray) (n' : Nat), k ≤ xs.length ∧ i = .int .i64 k ∧ Hid (IM wr mb n' (metF M')) ∧ Hid (Keeps (fun k => k = mb) W0 wr) ∧ Hid (Walked l s (xs.take k) (· ∈ M) (· ∈ M')) ∧ n' + unmet ((pairsR l).map (·.2)) M' ≤ n + unmet ((pairsR l).map (·.2)) M ∧ unmet ((pairsR l).map (·.2)) M' ≤ unmet ((pairsR l).map (·.2)) M) (fun i _ => xs.length - (intOf i).toNat)
  case atStart => exact ⟨0, M, n, by omega, rfl, HM, HK, HWK0, Nat.le_refl _, Nat.le_refl _⟩
  case round =>
    clear HM HK HWK0
    obtain ⟨k, M', n', hk, rfl, HM, HK, HWK, hnn, hun⟩ := hrel
    by_cases hlt : k < xs.length
    · have HV := Lib.hid (tStrs.mono _ _ _ _ (HEV.out.mem HK.out) HRD.out)
      obtain ⟨b, o, rfl, q0, hts⟩ := str_cell HV.out hlt
      have c0 : wr.cell? ⟨b, o + k, none⟩ = some (.string xs[k]) := q0
      have cm : wr.cell? ⟨vm, 0, none⟩ = some (.map (some mb)) := HEV.out.mem HK.out _ _ _ (mem_cells HEV.out.cm 0)
      have HIN := Lib.hid (show xs[k] ∈ succN l s from by rw [HXS.out]; exact List.getElem_mem hlt)
      have HINU := Lib.hid (HSUB.out _ (List.getElem_mem hlt))
      have HTK := Lib.hid (List.take_succ_eq_append_getElem hlt)
      clear q0 HV
      generalize xs[k] = t at *
      have hlb := HM.out.lookB hts
      by_cases hmt : t ∈ M'
      · rw [metF_yes hmt] at hlb
        have HWN := Lib.hid (show Walked l s (xs.take (k + 1)) (· ∈ M) (· ∈ M') from by rw [HTK.out]; exact HWK.out.skip hmt)
        clear hmt
        go_wp2_with fail
        go_roundw
        case rel => exact ⟨k + 1, M', n', by omega, by go_num, HM, HK, HWN, hnn, hun⟩
        case measure => simp [intOf]; omega
      · rw [metF_no hmt] at hlb
        have hlt2 := unmet_cons HINU.out hmt
        obtain ⟨w6, hput, hm6, hg6⟩ := HM.out.putB (by unfold maxLen; omega) hts (.bool true)
        rw [metF_put] at hm6
        have HK6 := Lib.hid (HK.out.trans ((grown_keeps hg6).wide (fun q _ e => by simpa using e)))
        have cw : w6.cell? ⟨vw, 0, none⟩ = some (.func (.func 21) #[] #[.pointer (some ⟨vn, 0, none⟩), .pointer (some ⟨vm, 0, none⟩), .pointer (some ⟨vw, 0, none⟩)]) := HEV.out.mem HK6.out _ _ _ (mem_cells HEV.out.cw 0)
        have HCALL := Lib.hid (HIH.out t (t :: M') (n' + 1) w6 (by omega) hts (by omega) hm6 HK6.out)
        have HWS := Lib.hid (show ∀ M2 : List ByteArray, Walked l t (succN l t) (fun x => x ∈ t :: M') (fun x => x ∈ M2) → Walked l s (xs.take (k + 1)) (· ∈ M) (· ∈ M2) from fun M2 h => by
          rw [HTK.out]
          refine HWK.out.step HIN.out ⟨fun x hx => h.old x ?_, fun x h1 h2 => h.way x h1 (fun h3 => h2 ?_), h.all, fun x h1 h2 => h.cls x h1 (fun h3 => h2 ?_)⟩
          · rcases hx with hx | hx
            · exact List.mem_cons_of_mem _ hx
            · rw [hx]; exact List.mem_cons_self
          · rcases List.mem_cons.1 h3 with h3 | h3
            · exact .inr h3
            · exact .inl h3
          · rcases List.mem_cons.1 h3 with h3 | h3
            · exact .inr h3
            · exact .inl h3)
        clear hm6 hg6 hmt HK HM
        go_wp2_with fail
        refine HCALL.out.mono ?_
        rintro e w7 ⟨rfl, M2, n2, hm7, hn7, hu7, hk7, hw7⟩
        have HM7 := Lib.hid hm7
        have HK7 := Lib.hid hk7
        have HW7 := Lib.hid (HWS.out M2 hw7)
        clear hm7 hk7 hw7 HCALL HWS
        go_wp2_with fail
        go_roundw
        case rel => exact ⟨k + 1, M2, n2, by omega, by go_num, HM7, HK7, HW7, by omega, by omega⟩
        case measure => simp [intOf]; omega
    · obtain rfl : k = xs.length := by omega
      have HWE := Lib.hid (show Walked l s xs (· ∈ M) (· ∈ M') from by have := HWK.out; rwa [List.take_length] at this)
      go_wp2_with fail
      go_end0
      exact ⟨rfl, M', n', HM.out, hnn, hun, HK.out, HWE.out⟩
theorem walk_any (env : WEnv W0 l nb vn vm vw mb nn F) : ∀ (N : Nat) (s : ByteArray) (M : List ByteArray) (n : Nat) (w : World), unmet ((pairsR l).map (·.2)) M = N → WalkSays W0 l vn vm vw mb s M n w := fun N =>
  Nat.strongRecOn N (fun N ih s M n w hN => walk_step env s M n w (fun s' M' n' w' h => ih (unmet ((pairsR l).map (·.2)) M') (hN ▸ h) s' M' n' w' rfl))
end
end Go.Proofs.YtafeaeaildfohaaGreatDoor
/- ring.Recursive's map of names: how it grows (for RingTexts, seat .ZD). -/
namespace Go.Proofs.YtafeaeaildfohaaGreatDoor
open Go.RowKit Go.Maps

theorem toN_snoc (L : List (ByteArray × ByteArray)) (p : ByteArray × ByteArray) (k : ByteArray) : toN (L ++ [p]) k = if p.1 = k then toN L k ++ [p.2] else toN L k := by
  rw [toN_append]
  by_cases h : p.1 = k
  · rw [if_pos h]; unfold toN; simp [h]
  · rw [if_neg h]; unfold toN; simp [h]
theorem toN_len (L : List (ByteArray × ByteArray)) (k : ByteArray) : (toN L k).length ≤ L.length := by
  unfold toN
  rw [List.length_map]
  exact List.length_filter_le _ _
/-- The map of names, in blocks from B on. -/
structure Nxt (W : World) (B mb n : Nat) (L : List (ByteArray × ByteArray)) (f : ByteArray → Option Value) : Prop where
  im : IM W mb n f
  ge : B ≤ mb
  none' : ∀ k, f k = none → toN L k = []
  some' : ∀ k v, f k = some v → Owns tStr W B 9 v (toN L k)
  apart : ∀ k k' v v', f k = some v → f k' = some v' → k ≠ k' → ∀ b, v.ownBlock = some b → v'.ownBlock ≠ some b
theorem Nxt.apartMap {W : World} {B mb n : Nat} {L : List (ByteArray × ByteArray)} {f : ByteArray → Option Value} (h : Nxt W B mb n L f) {k : ByteArray} {v : Value} (hk : f k = some v) : v.ownBlock ≠ some mb := fun e => by
  obtain ⟨es, c, hm⟩ := h.im.obj
  have := own_cells (h.some' k v hk) mb _ e hm
  cases this
theorem Nxt.keeps {W W' : World} {B mb n : Nat} {L : List (ByteArray × ByteArray)} {f : ByteArray → Option Value} (h : Nxt W B mb n L f) (hb : Below W.heap.size W W') : Nxt W' B mb n L f :=
  ⟨h.im.at (hb.block _ h.im.lt), h.ge, h.none', fun k v e => (h.some' k v e).keeps hb, h.apart⟩
/-- One name more. -/
theorem Nxt.snoc {W W5 W6 : World} {B mb n : Nat} {L : List (ByteArray × ByteArray)} {f : ByteArray → Option Value} (h : Nxt W B mb n L f) (x : ByteArray × ByteArray) {v' : Value}
    (hX : Owns tStr W5 B 9 v' (toN L x.1 ++ [x.2])) (hg5 : W.grownBy W5 (sliceOr (f x.1)).ownBlock) (hbl : v'.ownBlock = (sliceOr (f x.1)).ownBlock ∨ ∀ k, v'.ownBlock = some k → W.heap.size ≤ k)
    (hg6 : W5.grownBy W6 (some mb)) (him : IM W6 mb (n + 1) (putAt f x.1 v')) : Nxt W6 B mb (n + 1) (L ++ [x]) (putAt f x.1 v') := by
  have hmb : ∀ {w : World} {u : Value} {l : List ByteArray}, Owns tStr w B 9 u l → (∃ es c, w.heap[mb]? = some (.map es c)) → u.ownBlock ≠ some mb := fun {w u l} ho hm e => by
    obtain ⟨es, c, hm⟩ := hm
    have := own_cells ho mb _ e hm
    cases this
  have hso : ∀ b, (sliceOr (f x.1)).ownBlock = some b → ∃ v, f x.1 = some v ∧ v.ownBlock = some b := fun b e => by
    cases hf : f x.1 with
    | none => rw [hf] at e; cases e
    | some v => rw [hf] at e; exact ⟨v, rfl, e⟩
  have hm5 : ∃ es c, W5.heap[mb]? = some (.map es c) := by
    obtain ⟨es, c, hm⟩ := h.im.obj
    refine ⟨es, c, ((hg5.block mb h.im.lt (fun e => ?_)).trans hm)⟩
    obtain ⟨v, e1, e2⟩ := hso mb e.symm
    exact h.apartMap e1 e2
  refine ⟨him, h.ge, fun k hk => ?_, fun k v hk => ?_, fun k k' v u hk hk' hne b hb => ?_⟩
  · by_cases e : k = x.1
    · subst e; rw [putAt_same] at hk; cases hk
    · rw [putAt_other _ _ e] at hk
      rw [toN_snoc, if_neg (Ne.symm e)]
      exact h.none' k hk
  · by_cases e : k = x.1
    · subst e
      rw [putAt_same] at hk
      cases hk
      rw [toN_snoc, if_pos rfl]
      exact hX.keepsC tStr_flat (grown_keeps hg6) (fun j o _ hj hc e => by
        cases e
        obtain ⟨es, c, hm⟩ := hm5
        rw [hm] at hj; cases hj; cases hc)
    · rw [putAt_other _ _ e] at hk
      rw [toN_snoc, if_neg (Ne.symm e)]
      have h5 : Owns tStr W5 B 9 v (toN L k) := by
        refine (h.some' k v hk).keepsFlat tStr_flat (grown_keeps hg5) (fun j ej e' => ?_)
        obtain ⟨u, e1, e2⟩ := hso j e'.symm
        exact h.apart k x.1 v u hk e1 e j ej e2
      exact h5.keepsC tStr_flat (grown_keeps hg6) (fun j o _ hj hc e => by
        cases e
        obtain ⟨es, c, hm⟩ := hm5
        rw [hm] at hj; cases hj; cases hc)
  · have hlt : ∀ {j : ByteArray} {q : Value} {c : Nat}, f j = some q → q.ownBlock = some c → c < W.heap.size := fun {j q c} e1 e2 => ((h.some' j q e1).lt c e2).2
    by_cases e : k = x.1
    · subst e
      rw [putAt_same] at hk
      cases hk
      rw [putAt_other _ _ (Ne.symm hne)] at hk'
      rcases hbl with hbl | hbl
      · rw [hbl] at hb
        obtain ⟨z, e1, e2⟩ := hso b hb
        exact h.apart x.1 k' z u e1 hk' hne b e2
      · intro e3
        have := hbl b hb
        have := hlt hk' e3
        omega
    · rw [putAt_other _ _ e] at hk
      by_cases e' : k' = x.1
      · subst e'
        rw [putAt_same] at hk'
        cases hk'
        intro e3
        rcases hbl with hbl | hbl
        · rw [hbl] at e3
          obtain ⟨z, e1, e2⟩ := hso b e3
          exact h.apart k x.1 v z hk e1 hne b hb e2
        · have := hbl b e3
          have := hlt hk hb
          omega
      · rw [putAt_other _ _ e'] at hk'
        exact h.apart k k' v u hk hk' hne b hb
theorem Nxt.start (w : World) : Nxt (w.alloc (.map #[] 0)) w.heap.size w.heap.size 0 [] (fun _ => none) :=
  ⟨MapOf.made w, Nat.le_refl _, fun _ _ => rfl, fun _ _ h => by (cases h), fun _ _ _ _ h => by (cases h)⟩
theorem Nxt.row {W : World} {B mb n : Nat} {L : List (ByteArray × ByteArray)} {f : ByteArray → Option Value} (h : Nxt W B mb n L f) (k : ByteArray) : Owns tStr W B 9 (sliceOr (f k)) (toN L k) := by
  cases hf : f k with
  | none => rw [h.none' k hf]; exact Owns.nil _ _ _ _
  | some v => exact h.some' k v hf
theorem vsAddN {g : Nat → Option Value} {L : Nat → Bool} {f : Nat → Value} {i : Nat} {x : Value} (h : ∀ i u, g i = some u → L i = true → f i = u) (hx : ∀ u, g i = some u → x = u) : ∀ j u, g j = some u → setL L i j = true → setV f i x j = u := by
  intro j u e hl
  unfold setL at hl
  unfold setV
  split at hl
  · next h' => subst h'; rw [if_pos rfl]; exact hx u e
  · next h' => rw [if_neg h']; exact h j u e hl
end Go.Proofs.YtafeaeaildfohaaGreatDoor
