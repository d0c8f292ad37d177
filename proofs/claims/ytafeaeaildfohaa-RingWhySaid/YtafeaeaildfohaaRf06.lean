/- Part 6 of the texts that the law's proof stands on, merged. -/
import Derived.Deep.RegionHeld3
import Derived.Maps.RangeWalk
import Derived.Test.YtafeaeaildfohaaRf05
set_option linter.unusedVariables false
set_option linter.unusedSimpArgs false
/- The reference's ways. -/
namespace Go.Proofs.Ytafeaeaildfohaa
open Go.RowKit Go.Maps

theorem below_onSS {w w' : World} (h : Below w.heap.size w w') (S : Nat → Prop) : ((mem w).on S).le ((mem w').on S) := fun b o u e => by
  obtain ⟨hs, e⟩ := Mem.of_on e
  exact Mem.on_some (below_mem h _ _ _ e) hs
/-- What a variable's binding leaves. -/
def bndOr (av : Bnd) (n v : ByteArray) : Bnd := (bind1 av n v).getD av
theorem bndOr_len (av : Bnd) (n v : ByteArray) : (bndOr av n v).length ≤ av.length + 1 := by
  unfold bndOr bind1
  split
  · split <;> simp
  · simp
theorem refBound_both (S : Nat → Prop) (av : Bnd) (a b : Value) (ac : Option Addr) (nc cc : Nat) (n v : ByteArray) (w : World) (ha : tStrs.rv ((mem w).on S) [a] (av.map Prod.fst)) (hbb : tStrs.rv ((mem w).on S) [b] (av.map Prod.snd)) (hl : av.length ≤ 1000) (hn : n.size ≤ maxLen) (hv : v.size ≤ maxLen) :
    Calls Try.prog 73 #[.agg #[a, b, .slice ac nc cc], .string n, .string v] w fun e w' => ∃ a1 a2 b1 b2, e = .returned (.tuple #[.agg #[.slice a1 (bndOr av n v).length a2, .slice b1 (bndOr av n v).length b2, .slice ac nc cc], .bool (bind1 av n v).isSome]) ∧
      tStrs.rv ((mem w').on (fun k => S k ∨ w.heap.size ≤ k)) [.slice a1 (bndOr av n v).length a2] ((bndOr av n v).map Prod.fst) ∧ tStrs.rv ((mem w').on (fun k => S k ∨ w.heap.size ≤ k)) [.slice b1 (bndOr av n v).length b2] ((bndOr av n v).map Prod.snd) ∧ Below w.heap.size w w' :=
  (refBound_any S av a b ac nc cc n v w ha hbb hl hn hv).mono fun e w' ⟨h1, h2⟩ => by
    rcases h2 with ⟨h3, rfl⟩ | ⟨bs', a', b', h3, rfl, h4, h5⟩
    · have ha := tStrs.mono _ _ _ _ (below_onS h1 S) ha
      have hbb := tStrs.mono _ _ _ _ (below_onS h1 S) hbb
      obtain ⟨a1, a2, rfl, -⟩ := slice_form ha
      obtain ⟨b1, b2, rfl, -⟩ := slice_form hbb
      have e : bndOr av n v = av := by unfold bndOr; rw [h3]; rfl
      rw [e, h3]
      rw [List.length_map] at ha hbb ⊢
      rw [List.length_map]
      exact ⟨a1, a2, b1, b2, rfl, ha, hbb, h1⟩
    · obtain ⟨a1, a2, rfl, -⟩ := slice_form h4
      obtain ⟨b1, b2, rfl, -⟩ := slice_form h5
      have e : bndOr av n v = bs' := by unfold bndOr; rw [h3]; rfl
      rw [e, h3]
      rw [List.length_map] at h4 h5 ⊢
      rw [List.length_map]
      exact ⟨a1, a2, b1, b2, rfl, h4, h5, h1⟩
/-- The ways by one fact. -/
def wayF (x : Fct) (bd L : List Fct) (av : Bnd) (ls : List Fct) (f : Fct) : List Way := if f.n = x.n then (match bindF av x f with | none => [] | some bs => ways bd L bs (ls ++ [f])) else []
theorem ways_consF (x : Fct) (bd L : List Fct) (av : Bnd) (ls : List Fct) : ways (x :: bd) L av ls = L.flatMap (wayF x bd L av ls) := rfl
theorem flatMap_take {β : Type} (g : Fct → List β) {L : List Fct} {k : Nat} (h : k < L.length) : (L.take (k + 1)).flatMap g = (L.take k).flatMap g ++ g L[k] := by
  rw [List.take_succ_eq_append_getElem h, List.flatMap_append]; simp
theorem ways_le2 {bd L : List Fct} (hL : L.length ≤ 400) (hb : bd.length + 1 ≤ 3) (av : Bnd) (ls : List Fct) : (ways bd L av ls).length ≤ 160000 := by
  refine Nat.le_trans (ways_len L bd av ls) ?_
  refine Nat.le_trans (Nat.pow_le_pow_left hL _) ?_
  exact Nat.le_trans (Nat.pow_le_pow_right (by omega) (show bd.length ≤ 2 by omega)) (by decide)
theorem wayF_le {x : Fct} {bd L : List Fct} (hL : L.length ≤ 400) (hb : bd.length + 1 ≤ 3) (av : Bnd) (ls : List Fct) (f : Fct) : (wayF x bd L av ls f).length ≤ 160000 := by
  unfold wayF
  split
  · split
    · exact Nat.zero_le _
    · exact ways_le2 hL hb _ _
  · exact Nat.zero_le _
theorem acc_len {x : Fct} {bd L : List Fct} {av : Bnd} {ls : List Fct} {k : Nat} (hL : L.length ≤ 400) (hb : bd.length + 1 ≤ 3) (hk : k ≤ L.length) : ((L.take k).flatMap (wayF x bd L av ls)).length ≤ 64000000 := by
  have := flatMap_len_le (wayF x bd L av ls) 160000 (L.take k) (fun f _ => wayF_le hL hb av ls f)
  rw [List.length_take, Nat.min_eq_left hk] at this
  omega
def WaysOut (S : Nat → Prop) (bd L : List Fct) (av : Bnd) (ls : List Fct) (w : World) (e : Ending) (w' : World) : Prop :=
  ∃ v, e = .returned v ∧ tWays.rv ((mem w').on (fun k => S k ∨ w.heap.size ≤ k)) [v] (ways bd L av ls) ∧ Below w.heap.size w w'
theorem refWays_nil (L : List Fct) (S : Nat → Prop) (av : Bnd) (ls : List Fct) (bv lv a b c : Value) (w : World) (hbv : tFcts.rv ((mem w).on S) [bv] []) (hlv : tFcts.rv ((mem w).on S) [lv] L)
    (ha : tStrs.rv ((mem w).on S) [a] (av.map Prod.fst)) (hb : tStrs.rv ((mem w).on S) [b] (av.map Prod.snd)) (hc : tFcts.rv ((mem w).on S) [c] ls) :
    Calls Try.prog 55 #[bv, lv, .agg #[a, b, c]] w (WaysOut S [] L av ls w) := by
  obtain ⟨X, hX⟩ : ∃ X, X = (w.alloc (.cells #[a, b, c] 82)).alloc (.cells #[a, b, c] 82) := ⟨_, rfl⟩
  have HX := Lib.hid hX
  obtain ⟨hbl, hs, h1, h2⟩ := two_allocW hX
  have hm : ((mem w).on S).le ((mem X).on (fun k => S k ∨ w.heap.size ≤ k)) := below_onS hbl S
  have HR := Lib.hid (show tWays.rv ((mem X).on (fun k => S k ∨ w.heap.size ≤ k)) [.slice (some ⟨w.heap.size + 1, 0, none⟩) 1 1] (ways [] L av ls) from
    slice_one (cs := [a, b, c]) (fun j u hj => Mem.on_some (by
      have := mem_cells h2 (0 + j)
      rw [this]
      match j, hj with | 0, hj => simpa using hj | 1, hj => simpa using hj | 2, hj => simpa using hj) (.inr (by omega)))
      ⟨a, b, c, rfl, tStrs.mono _ _ _ _ hm ha, tStrs.mono _ _ _ _ hm hb, tFcts.mono _ _ _ _ hm hc⟩)
  have HB := Lib.hid hbl
  obtain ⟨ab, cb, rfl, -, -, -⟩ := slice_form hbv
  obtain ⟨al, cl, rfl, -, -, -⟩ := slice_form hlv
  obtain ⟨a1, a2, rfl, -⟩ := slice_form ha
  obtain ⟨b1, b2, rfl, -⟩ := slice_form hb
  obtain ⟨c1, c2, rfl, -⟩ := slice_form hc
  generalize (av.map Prod.fst).length = na at *
  generalize (av.map Prod.snd).length = nb at *
  clear hX hbl hs h1 h2 hm hbv hlv ha hb hc
  go_enter Try.func55, Try.ntmps55
  go_wp2
  go_ret
  rw [← HX.out]
  exact ⟨_, rfl, HR.out, HB.out⟩
theorem r8_new {S : Nat → Prop} {W8 w4 : World} {v : Value} {ns : List ByteArray} (hr : tStrs.rv ((mem w4).on (fun k => S k ∨ W8.drew.heap.size ≤ k)) [v] ns) (o : Obj) : tStrs.rv ((mem (w4.alloc o)).on (fun q => (S q ∨ W8.heap.size ≤ q) ∧ q ≠ w4.heap.size)) [v] ns :=
  tStrs.mono _ _ _ _ (fun b o' u e => by
    obtain ⟨hs, e⟩ := Mem.of_on e
    exact Mem.on_some (below_mem (boxW w4 o) _ _ _ e) ⟨hs, by have := mem_lt e; omega⟩) hr
theorem r8_old {S : Nat → Prop} {W8 w4 : World} {o : Obj} (hS : ∀ q, S q → q < W8.heap.size) {v : Value} {ns : List ByteArray} (hr : tStrs.rv ((mem w4).on (fun k => S k ∨ (W8.alloc o).drew.heap.size ≤ k)) [v] ns) (x y z : Value) :
    tStrs.rv ((mem (store3 w4 W8.heap.size x y z)).on (fun q => (S q ∨ W8.heap.size ≤ q) ∧ q ≠ W8.heap.size)) [v] ns :=
  tStrs.mono _ _ _ _ (fun b o' u e => by
    obtain ⟨hs, e⟩ := Mem.of_on e
    have hne : b ≠ W8.heap.size := by
      rcases hs with hs | hs
      · have := hS b hs; omega
      · have hs : (W8.alloc o).heap.size ≤ b := hs
        rw [World.size_alloc] at hs; omega
    refine Mem.on_some ((mem_of_block ((store3_keeps w4 W8.heap.size x y z).block b (mem_lt e) hne) o').trans e) ⟨?_, hne⟩
    rcases hs with hs | hs
    · exact .inl hs
    · have hs : (W8.alloc o).heap.size ≤ b := hs
      rw [World.size_alloc] at hs; exact .inr (by omega)) hr
theorem atmSize : (Try.prog.info? 28).map (·.size) = some tFct.sz := by kernel_rfl
theorem tFct_oneW : ∀ m cs x, tFct.rv m cs x → ∀ u ∈ cs, u.oneCell' = true := fun m cs x h u hu => by
  obtain ⟨rfl, _⟩ := h
  simp at hu
  rcases hu with rfl | rfl | rfl <;> rfl
/-- What stands behind the first binding. -/
structure R8 (S : Nat → Prop) (W8 WX : World) (tb : Nat) (p1 : Option Addr) (p2 : Nat) (r1 : Option Addr) (r2 : Nat) (k1 : Option Addr) (kn k2 : Nat) (bs : Bnd) : Prop where
  bl : Below W8.heap.size W8 WX
  lo : W8.heap.size ≤ tb
  hi : tb < WX.heap.size
  cb : WX.heap[tb]? = some (.cells #[.slice p1 bs.length p2, .slice r1 bs.length r2, .slice k1 kn k2] 82 (0, 0))
  ra : tStrs.rv ((mem WX).on (fun q => (S q ∨ W8.heap.size ≤ q) ∧ q ≠ tb)) [.slice p1 bs.length p2] (bs.map Prod.fst)
  rb : tStrs.rv ((mem WX).on (fun q => (S q ∨ W8.heap.size ≤ q) ∧ q ≠ tb)) [.slice r1 bs.length r2] (bs.map Prod.snd)
theorem R8.next {S : Nat → Prop} {W8 WX w5 : World} {tb : Nat} {p1 q1 : Option Addr} {p2 q2 : Nat} {r1 s1 : Option Addr} {r2 s2 : Nat} {k1 : Option Addr} {kn k2 : Nat} {bs bs2 : Bnd} (h : R8 S W8 WX tb p1 p2 r1 r2 k1 kn k2 bs) (hb : Below WX.heap.size WX w5)
    (ha : tStrs.rv ((mem w5).on (fun q => ((S q ∨ W8.heap.size ≤ q) ∧ q ≠ tb) ∨ WX.drew.heap.size ≤ q)) [.slice q1 bs2.length q2] (bs2.map Prod.fst)) (hr : tStrs.rv ((mem w5).on (fun q => ((S q ∨ W8.heap.size ≤ q) ∧ q ≠ tb) ∨ WX.drew.heap.size ≤ q)) [.slice s1 bs2.length s2] (bs2.map Prod.snd)) :
    R8 S W8 (store3 w5 tb (.slice q1 bs2.length q2) (.slice s1 bs2.length s2) (.slice k1 kn k2)) tb q1 q2 s1 s2 k1 kn k2 bs2 := by
  have hm : ∀ x y z, ((mem w5).on (fun q => ((S q ∨ W8.heap.size ≤ q) ∧ q ≠ tb) ∨ WX.drew.heap.size ≤ q)).le ((mem (store3 w5 tb x y z)).on (fun q => (S q ∨ W8.heap.size ≤ q) ∧ q ≠ tb)) := fun x y z b o u e => by
    obtain ⟨hs, e⟩ := Mem.of_on e
    have h1 := h.bl.size
    have h2 := h.hi
    have hq : (S b ∨ W8.heap.size ≤ b) ∧ b ≠ tb := by
      rcases hs with hs | hs
      · exact hs
      · have hs : WX.heap.size ≤ b := hs
        exact ⟨.inr (by omega), by omega⟩
    exact Mem.on_some ((mem_of_block ((store3_keeps w5 tb x y z).block b (mem_lt e) hq.2) o).trans e) hq
  have hk := store3_keeps w5 tb (.slice q1 bs2.length q2) (.slice s1 bs2.length s2) (.slice k1 kn k2)
  refine ⟨(h.bl.trans (hb.mono h.bl.size)).trans (hk.below (Nat.le_trans h.bl.size hb.size) (fun q e => by subst e; exact h.lo)), h.lo, Nat.lt_of_lt_of_le (Nat.lt_of_lt_of_le h.hi hb.size) hk.size, store3_block ((hb.block tb h.hi).trans h.cb) _ _ _, tStrs.mono _ _ _ _ (hm _ _ _) ha, tStrs.mono _ _ _ _ (hm _ _ _) hr⟩
/-- A call of a function, as one step. -/
theorem step_enter {P : Program} {ops : Array Oper} {Q : Exit → Act → World → Prop} {o : Oper} {a : Act} {w : World} {K : Act → World → Prop} {E : Prop} {f : FuncId} {args : Array Value} {R : Ending → World → Prop} (hg : o.guard = none) (hr : (execOp a.eval o).run P w = .ok (.enter f args) w) (hc : Calls P f args w R)
    (h : ∀ e w', R e w' → ∃ v, e = .returned v ∧ K (a.put o.dst v) w') : if Region.wanted o (yielded ops a.tmps) = true then Oper.wp P o a w K Q else E := by
  rw [if_pos (by simp [Region.wanted, hg])]
  unfold Oper.wp
  rw [hr, Oper.upon_enter]
  refine hc.mono ?_
  intro e w' hR
  obtain ⟨v, rfl, hk⟩ := h e w' hR
  exact hk
theorem step_append_d {α : Type} {P : Program} {ops : Array Oper} {Q : Exit → Act → World → Prop} {o : Oper} {a : Act} {w : World} {K : Act → World → Prop} {E : Prop} (hgd : o.guard = none) (s x : Operand) (T : TypeId)
    (ho : o.op = .call { callee := .builtin .append, args := #[s, x], argTypes := #[T, T] }) (t : Ty α) (hone : ∀ m cs x, t.rv m cs x → ∀ u ∈ cs, u.oneCell' = true) {e : TypeId} {z : Value} {bytes : Nat} (hT : P.underlying T = some (.slice e))
    (hinf : (P.info? e).map (fun i => (i.zero, i.size, i.bytes)) = some (some z, t.sz, bytes)) (hzs : z.cells.size = t.sz) (hsz : 0 < t.sz) (S : Nat → Prop) (B : Nat) (v : Value) (xs ys : List α) (hs : a.eval s = v) (hown : OwnsD t S w B e v xs)
    (ad : Option Addr) (n c : Nat) (hx : a.eval x = .slice ad n c) (hn : n = ys.length) (hy : (tSlice t).rv ((mem w).on (fun b => S b ∧ some b ≠ v.ownBlock)) [.slice ad n c] ys) (h63 : xs.length + ys.length ≤ maxLen) (hbytes : (xs.length + ys.length) * bytes ≤ 140737488355328) (hbase : B ≤ w.heap.size)
    (h : ∀ v' w', OwnsD t S w' B e v' (xs ++ ys) → w.grownBy w' v.ownBlock → K (a.put o.dst v') w') : if Region.wanted o (yielded ops a.tmps) = true then Oper.wp P o a w K Q else E := by
  subst hn
  rw [if_pos (by simp [Region.wanted, hgd])]
  obtain ⟨v', w', hr, h2, h3, h4⟩ := run_append_d (P := P) hone w T o.type hT hinf hzs hsz v xs ys hown ad c hy h63 hbytes hbase
  unfold Oper.wp execOp
  simp only [ho, resolve, invoke, builtin, Sem.run_bind, Sem.run_pure, Result.andThen_ok, List.map_toArray, List.map_cons, List.map_nil, hs, hx, hr]
  exact h v' w' h2 h3
structure J13 (Y : World) (RV : Value → World → Prop) (AP : Value → World → Value → World → Prop) (g : Nat → Option Value) (L : Nat → Bool) (f : Nat → Value) (w : World) : Prop where
  w0 : L 5 = false → w = Y
  w1 : L 5 = true → ∃ w10, RV (f 5) w10 ∧ (L 6 = false → w = w10) ∧ (L 6 = true → AP (f 5) w10 (f 6) w)
  vs : ∀ i u, g i = some u → L i = true → f i = u
  v7 : L 7 = true → f 7 = f 6
  d5 : L 5 = true → L 2 = true ∧ L 3 = true ∧ L 4 = true
  d6 : L 6 = true → L 5 = true ∧ L 0 = true
  d7 : L 7 = true → L 6 = true
def g13 (v0 v1 v2 v3 v4 : Value) : Nat → Option Value
  | 0 => some v0
  | 1 => some v1
  | 2 => some v2
  | 3 => some v3
  | 4 => some v4
  | _ => none
def g10 (p1 : Option Addr) (p2 : Nat) (r1 : Option Addr) (r2 : Nat) (k1 : Option Addr) (kn k2 n bb bo xb xo k : Nat) (x l : Value) (x3 y3 : ByteArray) : Nat → Option Value
  | 0 => some (.agg #[.slice p1 n p2, .slice r1 n r2, .slice k1 kn k2])
  | 1 => some x
  | 2 => some (.pointer (some ⟨xb, xo, none⟩))
  | 3 => some (.pointer (some ⟨xb, xo + 2, none⟩))
  | 4 => some (.string x3)
  | 5 => some l
  | 6 => some (.int .i64 k)
  | 7 => some (.pointer (some ⟨bb, bo + k * 3, none⟩))
  | 8 => some (.pointer (some ⟨bb, bo + k * 3 + 2, none⟩))
  | 9 => some (.string y3)
  | _ => none
def h10 (a : Value) (ok : Bool) : Nat → Option Value
  | 10 => some (.tuple #[a, .bool ok])
  | 11 => some (.tuple #[a, .bool ok])
  | 12 => some a
  | 13 => some (.bool ok)
  | 15 => some (.bool ok)
  | _ => none
structure J10 (Y : World) (tb : Nat) (S : Nat → Prop) (old : Array Value) (g : Nat → Option Value) (ok : Bool) (bs : Bnd) (k1 : Option Addr) (kn k2 : Nat) (q1 : Option Addr) (q2 : Nat) (s1 : Option Addr) (s2 : Nat) (L : Nat → Bool) (f : Nat → Value) (w : World) : Prop where
  w0 : L 10 = false → w = Y
  w1 : L 10 = true → ∃ w5, Below Y.heap.size Y w5 ∧ tStrs.rv ((mem w5).on (fun q => S q ∨ Y.heap.size ≤ q)) [.slice q1 bs.length q2] (bs.map Prod.fst) ∧ tStrs.rv ((mem w5).on (fun q => S q ∨ Y.heap.size ≤ q)) [.slice s1 bs.length s2] (bs.map Prod.snd) ∧
    w = if L 14 = true then store3 w5 tb (.slice q1 bs.length q2) (.slice s1 bs.length s2) (.slice k1 kn k2) else w5
  vs : ∀ i u, g i = some u → L i = true → f i = u
  v2 : ∀ i u, h10 (.agg #[.slice q1 bs.length q2, .slice s1 bs.length s2, .slice k1 kn k2]) ok i = some u → L i = true → f i = u
  dd : ∀ i, 11 ≤ i → L i = true → L 10 = true
  d0 : L 10 = true → L 0 = true ∧ L 4 = true ∧ L 9 = true
structure J12 (Y : World) (tb : Nat) (v0 v1 v2 : Value) (ls : List Fct) (y : Fct) (g : Nat → Option Value) (L : Nat → Bool) (f : Nat → Value) (w : World) : Prop where
  k : BK tFct Y tb 33 ls [] y y #[.string y.n, .string y.a, .string y.b] #[] (L 0) (L 3) (L 9) (L 8) false false false false (f 0) (f 3) (f 9) (f 8) undef undef undef undef w
  vs : ∀ i u, g i = some u → L i = true → f i = u
  d11 : L 11 = true → L 9 = true
  s1 : L 11 = false → w.heap[tb]? = some (.cells #[v0, v1, v2] 82 (0, 0))
  s2 : L 11 = true → w.heap[tb]? = some (.cells #[v0, v1, f 9] 82 (0, 0))
def g12 (wb tb bb bo k : Nat) (c l : Value) (y : Fct) : Nat → Option Value
  | 1 => some (.pointer (some ⟨wb, 2, none⟩))
  | 2 => some c
  | 4 => some l
  | 5 => some (.int .i64 k)
  | 6 => some (.pointer (some ⟨bb, bo + k * 3, none⟩))
  | 7 => some (.agg #[.string y.n, .string y.a, .string y.b])
  | 10 => some (.pointer (some ⟨tb, 2, none⟩))
  | _ => none
theorem set2_block {w : World} {b : Nat} {x y z u : Value} {T : TypeId} {f : Nat × Nat} (h : w.heap[b]? = some (.cells #[x, y, z] T f)) : (w.setCell ⟨b, 2, none⟩ u).heap[b]? = some (.cells #[x, y, u] T f) := by
  simp [World.setCell, Array.getElem?_modify, h]
set_option maxRecDepth 100000 in
set_option maxHeartbeats 8000000 in
theorem refWays_cons (L : List Fct) (x : Fct) (bd : List Fct) (S : Nat → Prop) (av : Bnd) (ls : List Fct) (bv lv a b c : Value) (w : World) (hbd : bd.length + 1 ≤ 3) (hL : L.length ≤ 400) (hav : av.length + 2 * bd.length + 2 ≤ 6) (hls : ls.length + bd.length + 1 ≤ 3)
    (hS : ∀ q, S q → q < w.heap.size) (hbv : tFcts.rv ((mem w).on S) [bv] (x :: bd)) (hlv : tFcts.rv ((mem w).on S) [lv] L)
    (ha : tStrs.rv ((mem w).on S) [a] (av.map Prod.fst)) (hb : tStrs.rv ((mem w).on S) [b] (av.map Prod.snd)) (hc : tFcts.rv ((mem w).on S) [c] ls)
    (ih : ∀ (S : Nat → Prop) (av : Bnd) (ls : List Fct) (bv lv a b c : Value) (w : World), av.length + 2 * bd.length ≤ 6 → ls.length + bd.length ≤ 3 → (∀ q, S q → q < w.heap.size) → tFcts.rv ((mem w).on S) [bv] bd → tFcts.rv ((mem w).on S) [lv] L →
      tStrs.rv ((mem w).on S) [a] (av.map Prod.fst) → tStrs.rv ((mem w).on S) [b] (av.map Prod.snd) → tFcts.rv ((mem w).on S) [c] ls → Calls Try.prog 55 #[bv, lv, .agg #[a, b, c]] w (WaysOut S bd L av ls w)) :
    Calls Try.prog 55 #[bv, lv, .agg #[a, b, c]] w (WaysOut S (x :: bd) L av ls w) := by
  have HBV := Lib.hid (fun w' (hb : Below w.heap.size w w') => tFcts.mono _ _ _ _ (below_onSS hb S) hbv)
  have HLV := Lib.hid (fun w' (hb : Below w.heap.size w w') => tFcts.mono _ _ _ _ (below_onSS hb S) hlv)
  have HLV0 := Lib.hid hlv
  have HBV0 := Lib.hid hbv
  have HA := Lib.hid ha
  have HBB := Lib.hid hb
  have HCC := Lib.hid hc
  have HIH := Lib.hid ih
  have HSS := Lib.hid hS
  have HX0 := Lib.hid (heap_alloc_new w (.cells #[a, b, c] 82))
  have HB0 := Lib.hid (boxW w)
  obtain ⟨ab, cb, rfl, -, hmb, -⟩ := slice_form hbv
  obtain ⟨al, cl, rfl, -, hml, -⟩ := slice_form hlv
  obtain ⟨a1, a2, rfl, -⟩ := slice_form ha
  obtain ⟨b1, b2, rfl, -⟩ := slice_form hb
  obtain ⟨k1, k2, rfl, -⟩ := slice_form hc
  generalize hna : (av.map Prod.fst).length = na at *
  generalize hnb : (av.map Prod.snd).length = nb at *
  clear hbv hlv ha hb hc ih hS hna hnb
  rw [List.length_cons] at *
  have hq0 : ((bd.length : Int) + 1 == 0) = false := by rw [beq_eq_false_iff_ne]; omega
  go_enter Try.func55, Try.ntmps55
  go_wp2_with fail
  go_loopw [7, 8] (fun ov i wr => ∃ k : Nat, k ≤ L.length ∧ i = .int .i64 k ∧ Hid (OwnsD tWay (fun q => S q ∨ w.heap.size ≤ q) wr (w.heap.size + 1) 82 ov ((L.take k).flatMap (wayF x bd L av ls))) ∧ Hid (Below w.heap.size w wr) ∧ Hid (wr.heap[w.heap.size]? = some (.cells #[.slice a1 na a2, .slice b1 nb b2, .slice k1 ls.length k2] 82 (0, 0)))) (fun _ i _ => L.length - (intOf i).toNat)
  case atStart => exact ⟨0, by omega, rfl, Lib.hid (OwnsD.nil _ _ _ _ _), Lib.hid (HB0.out _), HX0⟩
  case round =>
    obtain ⟨k, hk, rfl, HO, HB, HBX⟩ := hrel
    by_cases hlt : k < L.length
    · obtain ⟨bb, bo, rfl, ⟨q0, q1, q2⟩, hyok⟩ := fcts_at (tFcts.mono _ _ _ _ (Mem.on_le _ _) (HLV.out wr HB.out)) hlt
      obtain ⟨xb, xo, rfl, ⟨s0, s1, s2⟩, hxok⟩ := fcts_at (tFcts.mono _ _ _ _ (Mem.on_le _ _) (HBV.out wr HB.out)) (k := 0) (by simp)
      simp only [List.getElem_cons_zero, Nat.zero_mul, Nat.add_zero] at s0 s1 s2 hxok
      have c0 : wr.cell? ⟨bb, bo + k * 3, none⟩ = some (.string L[k].n) := q0
      have c1 : wr.cell? ⟨bb, bo + k * 3 + 1, none⟩ = some (.string L[k].a) := q1
      have c2' : wr.cell? ⟨bb, bo + k * 3 + 2, none⟩ = some (.string L[k].b) := q2
      have d0 : wr.cell? ⟨xb, xo, none⟩ = some (.string x.n) := s0
      have d1 : wr.cell? ⟨xb, xo + 1, none⟩ = some (.string x.a) := s1
      have d2 : wr.cell? ⟨xb, xo + 2, none⟩ = some (.string x.b) := s2
      have HFM := Lib.hid (flatMap_take (wayF x bd L av ls) hlt)
      have HYM := Lib.hid (show L[k] ∈ L from List.getElem_mem hlt)
      have HXO := Lib.hid hxok
      have HYO := Lib.hid hyok
      clear q0 q1 q2 s0 s1 s2 hxok hyok
      generalize L[k] = y at *
      have HAL := Lib.hid (acc_len (x := x) (av := av) (ls := ls) hL hbd hk)
      generalize (L.take k).flatMap (wayF x bd L av ls) = acc at *
      obtain ⟨y1, y2, y3⟩ := y
      obtain ⟨x1, x2, x3⟩ := x
      simp only at c0 c1 c2' d0 d1 d2
      have HE := Lib.hid (strEqW y1 x1)
      cases h1 : (y1.toList == x1.toList) with
      | false =>
        have h1' : (y1.toList != x1.toList) = true := by simp only [bne, h1]; rfl
        have HNX := Lib.hid (show (L.take (k + 1)).flatMap (wayF ⟨x1, x2, x3⟩ bd L av ls) = acc from by
          rw [HFM.out]
          unfold wayF
          rw [if_neg (of_decide_eq_false (HE.out.symm.trans h1)), List.append_nil])
        have HD := Lib.hid (show ∀ m, Below wr.heap.size wr (wr.drewN m) from fun m => ⟨rfl, rfl, rfl, Nat.le_refl _, fun _ _ => rfl⟩)
        go_wp2_with fail
        go_quiet (fail)
        go_wp2
        go_roundw
        case rel => exact ⟨k + 1, by omega, by go_num, by rw [HNX.out]; exact Lib.hid (HO.out.keeps (HD.out _)), Lib.hid (pure_trans HB.out (HD.out _)), HBX⟩
        case measure => simp [intOf]; omega
      | true =>
        have h1' : (y1.toList != x1.toList) = false := by simp only [bne, h1]; rfl
        go_wp2_with fail
        go_quiet (fail)
        go_wp2_with fail
        obtain ⟨W8, hW8⟩ : ∃ W8, W8 = wr.drewN nq := ⟨_, rfl⟩
        have hb8 : Below wr.heap.size wr W8 := by rw [hW8]; exact ⟨rfl, rfl, rfl, Nat.le_refl _, fun _ _ => rfl⟩
        have HB8 := Lib.hid (pure_trans HB.out hb8)
        have HO8 := Lib.hid (HO.out.keeps hb8)
        have hbx8 := (hb8.block w.heap.size (by have := HB.out.size; have := (Array.getElem?_eq_some_iff.1 HBX.out).1; omega)).trans HBX.out
        have HBX8 := Lib.hid hbx8
        have HSZ8 := Lib.hid (show wr.heap.size = W8.heap.size by rw [hW8]; rfl)
        rw [← hW8]
        replace c1 : W8.cell? ⟨bb, bo + k * 3 + 1, none⟩ = some (.string y2) := below_mem hb8 _ _ _ c1
        replace c0 : W8.cell? ⟨bb, bo + k * 3, none⟩ = some (.string y1) := below_mem hb8 _ _ _ c0
        replace c2' : W8.cell? ⟨bb, bo + k * 3 + 2, none⟩ = some (.string y3) := below_mem hb8 _ _ _ c2'
        replace d1 : W8.cell? ⟨xb, xo + 1, none⟩ = some (.string x2) := below_mem hb8 _ _ _ d1
        replace d2 : W8.cell? ⟨xb, xo + 2, none⟩ = some (.string x3) := below_mem hb8 _ _ _ d2
        have g0 : W8.cell? ⟨w.heap.size, 0, none⟩ = some (.slice a1 na a2) := mem_cells hbx8 0
        have g1 : W8.cell? ⟨w.heap.size, 1, none⟩ = some (.slice b1 nb b2) := mem_cells hbx8 1
        have g2 : W8.cell? ⟨w.heap.size, 2, none⟩ = some (.slice k1 ls.length k2) := mem_cells hbx8 2
        have c0' := c0
        have c1' := c1
        have c2'' := c2'
        clear hW8 hb8 hbx8 HBX HO HB d0
        have HKP := Lib.hid (fun (w' : World) (hb : Below W8.heap.size W8 w') => (show (w'.cell? ⟨bb, bo + k * 3 + 1, none⟩ = some (.string y2) ∧ w'.cell? ⟨xb, xo + 1, none⟩ = some (.string x2)) ∧ w'.cell? ⟨w.heap.size, 0, none⟩ = some (.slice a1 na a2) ∧ w'.cell? ⟨w.heap.size, 1, none⟩ = some (.slice b1 nb b2) ∧ w'.cell? ⟨w.heap.size, 2, none⟩ = some (.slice k1 ls.length k2) from ⟨⟨below_mem hb _ _ _ c1, below_mem hb _ _ _ d1⟩, below_mem hb _ _ _ g0, below_mem hb _ _ _ g1, below_mem hb _ _ _ g2⟩))
        have hb0 : Below W8.heap.size W8 W8.drew := (Below.refl _ _).drew
        have hbA : Below W8.heap.size W8 (W8.alloc (.cells #[.slice none 0 0, .slice none 0 0, .slice none 0 0] 82)).drew := ((Below.refl _ _).alloc (Nat.le_refl _) _).drew
        have HB80 := Lib.hid (pure_trans HB8.out hb0)
        have HB8A := Lib.hid (pure_trans HB8.out hbA)
        have hzA := heap_alloc_new W8 (.cells #[.slice none 0 0, .slice none 0 0, .slice none 0 0] 82)
        have HZA := Lib.hid (fun (w' : World) (hb : Below (W8.heap.size + 1) (W8.alloc (.cells #[.slice none 0 0, .slice none 0 0, .slice none 0 0] 82)).drew w') => (hb.block W8.heap.size (by omega)).trans hzA)
        have HBD := Lib.hid (fun w' (hb : Below w.heap.size w w') => refBound_both S av (.slice a1 na a2) (.slice b1 nb b2) k1 ls.length k2 x2 y2 w' (tStrs.mono _ _ _ _ (below_onSS hb S) HA.out) (tStrs.mono _ _ _ _ (below_onSS hb S) HBB.out) (by omega) HXO.out.2.1 HYO.out.2.1)
        have HBL := Lib.hid (bndOr_len av x2 y2)
        have HBF := Lib.hid (show bindF av ⟨x1, x2, x3⟩ ⟨y1, y2, y3⟩ = (bind1 av x2 y2).bind (fun bs => bind1 bs x3 y3) from rfl)
        have HBO := Lib.hid (show bndOr av x2 y2 = (bind1 av x2 y2).getD av from rfl)
        generalize bndOr av x2 y2 = bs at *
        generalize bind1 av x2 y2 = ob at *
        clear hzA
        have HW8 := Lib.hid HB8.out.size
        have HS8 := Lib.hid (show ∀ q, S q → q < W8.heap.size from fun q h => Nat.lt_of_lt_of_le (HSS.out q h) HB8.out.size)
        go_region_held3 (fun w' => (w'.cell? ⟨bb, bo + k * 3 + 1, none⟩ = some (.string y2) ∧ w'.cell? ⟨xb, xo + 1, none⟩ = some (.string x2)) ∧ w'.cell? ⟨w.heap.size, 0, none⟩ = some (.slice a1 na a2) ∧ w'.cell? ⟨w.heap.size, 1, none⟩ = some (.slice b1 nb b2) ∧ w'.cell? ⟨w.heap.size, 2, none⟩ = some (.slice k1 ls.length k2))
          ((refine HKP.out _ ?_; with_reducible assumption))
          ((go_at_call 73; first
            | (refine (HBD.out _ HB80.out).mono ?_; rintro e w4 ⟨p1, p2, r1, r2, rfl, hra, hrb, hb4⟩; have t1 := pure_trans hb0 hb4; have t2 := t1.alloc t1.size (.cells #[.slice none 0 0, .slice none 0 0, .slice none 0 0] 82); have t3 := t1.alloc t1.size (.cells #[.slice p1 bs.length p2, .slice r1 bs.length r2, .slice k1 ls.length k2] 82))
            | (refine (HBD.out _ HB8A.out).mono ?_; rintro e w4 ⟨p1, p2, r1, r2, rfl, hra, hrb, hb4⟩; have t1 := pure_trans hbA hb4; have hz := HZA.out w4 (hb4.mono (by simp)); have z0 : w4.cell? ⟨W8.heap.size, 0, none⟩ = some (.slice none 0 0) := mem_cells hz 0; have z1 : w4.cell? ⟨W8.heap.size, 1, none⟩ = some (.slice none 0 0) := mem_cells hz 1; have z2 : w4.cell? ⟨W8.heap.size, 2, none⟩ = some (.slice none 0 0) := mem_cells hz 2;
               have y0 : w4.frozen? ⟨W8.heap.size, 0, none⟩ = false := frozen_cells hz 0; have y1' : w4.frozen? ⟨W8.heap.size, 1, none⟩ = false := frozen_cells hz 1; have y2' : w4.frozen? ⟨W8.heap.size, 2, none⟩ = false := frozen_cells hz 2;
               have t2 := t1.setCell (p := ⟨W8.heap.size, 0, none⟩) (Nat.le_refl _) (.slice p1 bs.length p2); have t3 := t2.setCell (p := ⟨W8.heap.size, 1, none⟩) (Nat.le_refl _) (.slice r1 bs.length r2); have t4 := t3.setCell (p := ⟨W8.heap.size, 2, none⟩) (Nat.le_refl _) (.slice k1 ls.length k2))))
        have HR8 := Lib.hid (show R8 S W8 (w4.alloc (.cells #[.slice p1 bs.length p2, .slice r1 bs.length r2, .slice k1 ls.length k2] 82)) w4.heap.size p1 p2 r1 r2 k1 ls.length k2 bs from ⟨t3, t1.size, by simp, heap_alloc_new w4 _, r8_new hra _, r8_new hrb _⟩)
        obtain ⟨WX, hWX⟩ : ∃ WX, WX = w4.alloc (.cells #[.slice p1 bs.length p2, .slice r1 bs.length r2, .slice k1 ls.length k2] 82) := ⟨_, rfl⟩
        rw [← hWX] at HR8 ⊢
        obtain ⟨tb, htb⟩ : ∃ tb, tb = w4.heap.size := ⟨_, rfl⟩
        rw [← htb] at HR8 ⊢
        clear hWX htb t1 t2 t3 hra hrb hb4 HBD HKP hb0 hbA HB80 HB8A HZA
        rotate_left
        have HR8 := Lib.hid (show R8 S W8 (((w4.setCell ⟨W8.heap.size, 0, none⟩ (.slice p1 bs.length p2)).setCell ⟨W8.heap.size, 1, none⟩ (.slice r1 bs.length r2)).setCell ⟨W8.heap.size, 2, none⟩ (.slice k1 ls.length k2)) W8.heap.size p1 p2 r1 r2 k1 ls.length k2 bs from ⟨t4, Nat.le_refl _, Nat.lt_of_lt_of_le (mem_lt z0) ((store3_keeps w4 W8.heap.size _ _ _).size), store3_block hz _ _ _, r8_old HS8.out hra _ _ _, r8_old HS8.out hrb _ _ _⟩)
        obtain ⟨WX, hWX⟩ : ∃ WX, WX = (((w4.setCell ⟨W8.heap.size, 0, none⟩ (.slice p1 bs.length p2)).setCell ⟨W8.heap.size, 1, none⟩ (.slice r1 bs.length r2)).setCell ⟨W8.heap.size, 2, none⟩ (.slice k1 ls.length k2)) := ⟨_, rfl⟩
        rw [← hWX] at HR8 ⊢
        obtain ⟨tb, htb⟩ : ∃ tb, tb = W8.heap.size := ⟨_, rfl⟩
        rw [← htb] at HR8 ⊢
        clear hWX htb t1 t2 t3 t4 hra hrb hb4 HBD HKP hb0 hbA HB80 HB8A HZA hz z0 z1 z2 y0 y1' y2'
        all_goals
          cases ob with
          | none =>
            have HNX := Lib.hid (show (L.take (k + 1)).flatMap (wayF ⟨x1, x2, x3⟩ bd L av ls) = acc from by
              rw [HFM.out]
              unfold wayF
              rw [if_pos (of_decide_eq_true (HE.out.symm.trans h1)), HBF.out]
              exact List.append_nil _)
            have HBE := Lib.hid (pure_trans HB8.out HR8.out.bl)
            have HOE := Lib.hid (HO8.out.keeps HR8.out.bl)
            have HBXE := Lib.hid ((HR8.out.bl.block w.heap.size (by have := (Array.getElem?_eq_some_iff.1 HBX8.out).1; omega)).trans HBX8.out)
            clear HR8 HFM HE HBF HBO
            go_wp2
            go_roundw
            case rel => exact ⟨k + 1, by omega, by go_num, by rw [HNX.out]; exact HOE, HBE, HBXE⟩
            case measure => simp [intOf]; omega
          | some bs0 =>
            obtain rfl : bs = bs0 := HBO.out
            have hcb := HR8.out.cb
            have z0 : WX.cell? ⟨tb, 0, none⟩ = some (.slice p1 bs.length p2) := mem_cells hcb 0
            have z1 : WX.cell? ⟨tb, 1, none⟩ = some (.slice r1 bs.length r2) := mem_cells hcb 1
            have z2 : WX.cell? ⟨tb, 2, none⟩ = some (.slice k1 ls.length k2) := mem_cells hcb 2
            have y0 : WX.frozen? ⟨tb, 0, none⟩ = false := frozen_cells hcb 0
            have y1' : WX.frozen? ⟨tb, 1, none⟩ = false := frozen_cells hcb 1
            have y2' : WX.frozen? ⟨tb, 2, none⟩ = false := frozen_cells hcb 2
            replace c2' : WX.cell? ⟨bb, bo + k * 3 + 2, none⟩ = some (.string y3) := below_mem HR8.out.bl _ _ _ c2'
            replace d2 : WX.cell? ⟨xb, xo + 2, none⟩ = some (.string x3) := below_mem HR8.out.bl _ _ _ d2
            have HBW := Lib.hid (pure_trans HB8.out HR8.out.bl)
            have HOW := Lib.hid (HO8.out.keeps HR8.out.bl)
            have hbxw := (HR8.out.bl.block w.heap.size (by have := (Array.getElem?_eq_some_iff.1 HBX8.out).1; omega)).trans HBX8.out
            have HBXW := Lib.hid hbxw
            clear hcb hbxw g0 g1 g2 c0 c1 d1 HBO
            go_wp2_with fail
            have hw0 : Below WX.heap.size WX WX.drew := (Below.refl _ _).drew
            have HWS := Lib.hid (show ∀ q, ((S q ∨ W8.heap.size ≤ q) ∧ q ≠ tb) → True from fun _ _ => trivial)
            have HBD := Lib.hid (refBound_both (fun q => (S q ∨ W8.heap.size ≤ q) ∧ q ≠ tb) bs (.slice p1 bs.length p2) (.slice r1 bs.length r2) k1 ls.length k2 x3 y3 WX.drew HR8.out.ra HR8.out.rb (by have := HBL.out; omega) HXO.out.2.2 HYO.out.2.2)
            have HKW := Lib.hid (fun (w' : World) (hb : Below WX.heap.size WX w') => (hb.block tb HR8.out.hi).trans HR8.out.cb)
            have HBL2 := Lib.hid (bndOr_len bs x3 y3)
            have HBO2 := Lib.hid (show bndOr bs x3 y3 = (bind1 bs x3 y3).getD bs from rfl)
            have HBF2 := Lib.hid (show bindF av ⟨x1, x2, x3⟩ ⟨y1, y2, y3⟩ = bind1 bs x3 y3 from HBF.out)
            clear HBF
            generalize bndOr bs x3 y3 = bs2 at *
            generalize bind1 bs x3 y3 = ob2 at *
            refine wp_region_inv (by kernel_rfl) (by kernel_rfl) (by kernel_rfl) (fun Lx f w => ∃ q1 q2 s1 s2, J10 WX.drew tb (fun q => (S q ∨ W8.heap.size ≤ q) ∧ q ≠ tb) #[] (g10 p1 p2 r1 r2 k1 ls.length k2 bs.length bb bo xb xo k (.slice (some ⟨xb, xo, none⟩) (bd.length + 1) cb) (.slice (some ⟨bb, bo, none⟩) L.length cl) x3 y3) ob2.isSome bs2 k1 ls.length k2 q1 q2 s1 s2 Lx f w) ?start (AllAt.all ?steps) ?ends
            case start => exact ⟨none, 0, none, 0, fun _ => rfl, fun e => (by cases e), fun i u _ e => (by cases e), fun i u _ e => (by cases e), fun i _ e => (by cases e), fun e => (by cases e)⟩
            case steps =>
              refine AllAt.cons 1 ?s0 (AllAt.cons 2 ?s1 (AllAt.cons 3 ?s2 (AllAt.cons 4 ?s3 (AllAt.cons 5 ?s4 (AllAt.cons 6 ?s5 (AllAt.cons 7 ?s6 (AllAt.cons 8 ?s7 (AllAt.cons 9 ?s8 (AllAt.cons 10 ?s9 (AllAt.cons 11 ?s10 (AllAt.cons 12 ?s11 (AllAt.cons 13 ?s12 (AllAt.cons 14 ?s13 (AllAt.cons 15 ?s14 (AllAt.cons 16 ?s15 (AllAt.nil) rfl) rfl) rfl) rfl) rfl) rfl) rfl) rfl) rfl) rfl) rfl) rfl) rfl) rfl) rfl) rfl
              case s0 =>
                intro Lx f a wz hJ hLi hdep hv h0 K hK
                obtain ⟨q1, q2, s1, s2, hJ⟩ := hJ
                have hL10 : Lx 10 = false := by
                  cases e : Lx 10 with
                  | false => rfl
                  | true => exact absurd (hJ.d0 e) (by rw [hLi]; simp)
                have hw := hJ.w0 hL10
                subst hw
                have e9 : a.eval (.tmp 9) = .pointer (some ⟨tb, 0, none⟩) := (h0 9 (noDst_spec (by kernel_rfl))).trans rfl
                refine step_val rfl (v := .agg #[.slice p1 bs.length p2, .slice r1 bs.length r2, .slice k1 ls.length k2]) (w' := WX.drew) ?_ (hK _ _ ⟨q1, q2, s1, s2, hJ.w0, hJ.w1, vsAdd hJ.vs (fun u e => Option.some.inj e), vsAdd hJ.v2 (fun u e => absurd (show (none : Option Value) = some u from e) (by simp)), fun j hj hl => (by rcases Nat.lt_or_ge j 11 with h | h; omega; exact hJ.dd j hj (by have e : setL Lx 0 j = true := hl; unfold setL at e; rwa [if_neg (by omega)] at e)), fun e => absurd (show Lx 10 = true from e) (by rw [hL10]; simp)⟩)
                clear hJ hdep hv h0 hK
                generalize a.eval = ρ at *
                simp [go_sem, execOp, *]
              case s1 =>
                intro Lx f a wz hJ hLi hdep hv h0 K hK
                obtain ⟨q1, q2, s1, s2, hJ⟩ := hJ
                have e0 : a.eval (.tmp 0) = .slice (some ⟨xb, xo, none⟩) (bd.length + 1) cb := (h0 0 (noDst_spec (by kernel_rfl))).trans rfl
                refine step_val rfl (v := .slice (some ⟨xb, xo, none⟩) (bd.length + 1) cb) (w' := wz) ?_ (hK _ _ ⟨q1, q2, s1, s2, hJ.w0, hJ.w1, vsAdd hJ.vs (fun u e => Option.some.inj e), vsAdd hJ.v2 (fun u e => absurd (show (none : Option Value) = some u from e) (by simp)), fun j hj hl => (by rcases Nat.lt_or_ge j 11 with h | h; omega; exact hJ.dd j hj (by have e : setL Lx 1 j = true := hl; unfold setL at e; rwa [if_neg (by omega)] at e)), hJ.d0⟩)
                clear hJ hdep hv h0 hK
                generalize a.eval = ρ at *
                simp [go_sem, execOp, *]
              case s2 =>
                intro Lx f a wz hJ hLi hdep hv h0 K hK
                obtain ⟨q1, q2, s1, s2, hJ⟩ := hJ
                have hL1 := hdep 1 (List.mem_of_elem_eq_true (by kernel_rfl))
                have e49 := (hv 1 49 rfl hL1).trans (hJ.vs 1 _ rfl hL1)
                have ek : a.eval (.const (.int .i64 0)) = .int .i64 0 := rfl
                refine step_val rfl (v := .pointer (some ⟨xb, xo, none⟩)) (w' := wz) ?_ (hK _ _ ⟨q1, q2, s1, s2, hJ.w0, hJ.w1, vsAdd hJ.vs (fun u e => Option.some.inj e), vsAdd hJ.v2 (fun u e => absurd (show (none : Option Value) = some u from e) (by simp)), fun j hj hl => (by rcases Nat.lt_or_ge j 11 with h | h; omega; exact hJ.dd j hj (by have e : setL Lx 2 j = true := hl; unfold setL at e; rwa [if_neg (by omega)] at e)), hJ.d0⟩)
                clear hJ hdep hv h0 hK
                generalize a.eval = ρ at *
                simp [go_sem, execOp, *]
              case s3 =>
                intro Lx f a wz hJ hLi hdep hv h0 K hK
                obtain ⟨q1, q2, s1, s2, hJ⟩ := hJ
                have hL2 := hdep 2 (List.mem_of_elem_eq_true (by kernel_rfl))
                have e50 := (hv 2 50 rfl hL2).trans (hJ.vs 2 _ rfl hL2)
                refine step_val rfl (v := .pointer (some ⟨xb, xo + 2, none⟩)) (w' := wz) ?_ (hK _ _ ⟨q1, q2, s1, s2, hJ.w0, hJ.w1, vsAdd hJ.vs (fun u e => Option.some.inj e), vsAdd hJ.v2 (fun u e => absurd (show (none : Option Value) = some u from e) (by simp)), fun j hj hl => (by rcases Nat.lt_or_ge j 11 with h | h; omega; exact hJ.dd j hj (by have e : setL Lx 3 j = true := hl; unfold setL at e; rwa [if_neg (by omega)] at e)), hJ.d0⟩)
                clear hJ hdep hv h0 hK
                generalize a.eval = ρ at *
                simp [go_sem, execOp, *]
              case s4 =>
                intro Lx f a wz hJ hLi hdep hv h0 K hK
                obtain ⟨q1, q2, s1, s2, hJ⟩ := hJ
                have hL10 : Lx 10 = false := by
                  cases e : Lx 10 with
                  | false => rfl
                  | true => exact absurd (hJ.d0 e) (by rw [hLi]; simp)
                have hw := hJ.w0 hL10
                subst hw
                have hL3 := hdep 3 (List.mem_of_elem_eq_true (by kernel_rfl))
                have e51 := (hv 3 51 rfl hL3).trans (hJ.vs 3 _ rfl hL3)
                refine step_val rfl (v := .string x3) (w' := WX.drew) ?_ (hK _ _ ⟨q1, q2, s1, s2, hJ.w0, hJ.w1, vsAdd hJ.vs (fun u e => Option.some.inj e), vsAdd hJ.v2 (fun u e => absurd (show (none : Option Value) = some u from e) (by simp)), fun j hj hl => (by rcases Nat.lt_or_ge j 11 with h | h; omega; exact hJ.dd j hj (by have e : setL Lx 4 j = true := hl; unfold setL at e; rwa [if_neg (by omega)] at e)), fun e => absurd (show Lx 10 = true from e) (by rw [hL10]; simp)⟩)
                clear hJ hdep hv h0 hK
                generalize a.eval = ρ at *
                simp [go_sem, execOp, *]
              case s5 =>
                intro Lx f a wz hJ hLi hdep hv h0 K hK
                obtain ⟨q1, q2, s1, s2, hJ⟩ := hJ
                have e1 : a.eval (.tmp 1) = .slice (some ⟨bb, bo, none⟩) L.length cl := (h0 1 (noDst_spec (by kernel_rfl))).trans rfl
                refine step_val rfl (v := .slice (some ⟨bb, bo, none⟩) L.length cl) (w' := wz) ?_ (hK _ _ ⟨q1, q2, s1, s2, hJ.w0, hJ.w1, vsAdd hJ.vs (fun u e => Option.some.inj e), vsAdd hJ.v2 (fun u e => absurd (show (none : Option Value) = some u from e) (by simp)), fun j hj hl => (by rcases Nat.lt_or_ge j 11 with h | h; omega; exact hJ.dd j hj (by have e : setL Lx 5 j = true := hl; unfold setL at e; rwa [if_neg (by omega)] at e)), hJ.d0⟩)
                clear hJ hdep hv h0 hK
                generalize a.eval = ρ at *
                simp [go_sem, execOp, *]
              case s6 =>
                intro Lx f a wz hJ hLi hdep hv h0 K hK
                obtain ⟨q1, q2, s1, s2, hJ⟩ := hJ
                have e8 : a.eval (.tmp 8) = .int .i64 k := (h0 8 (noDst_spec (by kernel_rfl))).trans rfl
                refine step_val rfl (v := .int .i64 k) (w' := wz) ?_ (hK _ _ ⟨q1, q2, s1, s2, hJ.w0, hJ.w1, vsAdd hJ.vs (fun u e => Option.some.inj e), vsAdd hJ.v2 (fun u e => absurd (show (none : Option Value) = some u from e) (by simp)), fun j hj hl => (by rcases Nat.lt_or_ge j 11 with h | h; omega; exact hJ.dd j hj (by have e : setL Lx 6 j = true := hl; unfold setL at e; rwa [if_neg (by omega)] at e)), hJ.d0⟩)
                clear hJ hdep hv h0 hK
                generalize a.eval = ρ at *
                simp [go_sem, execOp, *]
              case s7 =>
                intro Lx f a wz hJ hLi hdep hv h0 K hK
                obtain ⟨q1, q2, s1, s2, hJ⟩ := hJ
                have hL5 := hdep 5 (List.mem_of_elem_eq_true (by kernel_rfl))
                have hL6 := hdep 6 (List.mem_of_elem_eq_true (by kernel_rfl))
                have e53 := (hv 5 53 rfl hL5).trans (hJ.vs 5 _ rfl hL5)
                have e54 := (hv 6 54 rfl hL6).trans (hJ.vs 6 _ rfl hL6)
                refine step_val rfl (v := .pointer (some ⟨bb, bo + k * 3, none⟩)) (w' := wz) ?_ (hK _ _ ⟨q1, q2, s1, s2, hJ.w0, hJ.w1, vsAdd hJ.vs (fun u e => Option.some.inj e), vsAdd hJ.v2 (fun u e => absurd (show (none : Option Value) = some u from e) (by simp)), fun j hj hl => (by rcases Nat.lt_or_ge j 11 with h | h; omega; exact hJ.dd j hj (by have e : setL Lx 7 j = true := hl; unfold setL at e; rwa [if_neg (by omega)] at e)), hJ.d0⟩)
                clear hJ hdep hv h0 hK
                generalize a.eval = ρ at *
                simp [go_sem, execOp, *]
              case s8 =>
                intro Lx f a wz hJ hLi hdep hv h0 K hK
                obtain ⟨q1, q2, s1, s2, hJ⟩ := hJ
                have hL7 := hdep 7 (List.mem_of_elem_eq_true (by kernel_rfl))
                have e55 := (hv 7 55 rfl hL7).trans (hJ.vs 7 _ rfl hL7)
                refine step_val rfl (v := .pointer (some ⟨bb, bo + k * 3 + 2, none⟩)) (w' := wz) ?_ (hK _ _ ⟨q1, q2, s1, s2, hJ.w0, hJ.w1, vsAdd hJ.vs (fun u e => Option.some.inj e), vsAdd hJ.v2 (fun u e => absurd (show (none : Option Value) = some u from e) (by simp)), fun j hj hl => (by rcases Nat.lt_or_ge j 11 with h | h; omega; exact hJ.dd j hj (by have e : setL Lx 8 j = true := hl; unfold setL at e; rwa [if_neg (by omega)] at e)), hJ.d0⟩)
                clear hJ hdep hv h0 hK
                generalize a.eval = ρ at *
                simp [go_sem, execOp, *]
              case s9 =>
                intro Lx f a wz hJ hLi hdep hv h0 K hK
                obtain ⟨q1, q2, s1, s2, hJ⟩ := hJ
                have hL10 : Lx 10 = false := by
                  cases e : Lx 10 with
                  | false => rfl
                  | true => exact absurd (hJ.d0 e) (by rw [hLi]; simp)
                have hw := hJ.w0 hL10
                subst hw
                have hL8 := hdep 8 (List.mem_of_elem_eq_true (by kernel_rfl))
                have e56 := (hv 8 56 rfl hL8).trans (hJ.vs 8 _ rfl hL8)
                refine step_val rfl (v := .string y3) (w' := WX.drew) ?_ (hK _ _ ⟨q1, q2, s1, s2, hJ.w0, hJ.w1, vsAdd hJ.vs (fun u e => Option.some.inj e), vsAdd hJ.v2 (fun u e => absurd (show (none : Option Value) = some u from e) (by simp)), fun j hj hl => (by rcases Nat.lt_or_ge j 11 with h | h; omega; exact hJ.dd j hj (by have e : setL Lx 9 j = true := hl; unfold setL at e; rwa [if_neg (by omega)] at e)), fun e => absurd (show Lx 10 = true from e) (by rw [hL10]; simp)⟩)
                clear hJ hdep hv h0 hK
                generalize a.eval = ρ at *
                simp [go_sem, execOp, *]
              case s10 =>
                intro Lx f a wz hJ hLi hdep hv h0 K hK
                obtain ⟨q1, q2, s1, s2, hJ⟩ := hJ
                have hL0 := hdep 0 (List.mem_of_elem_eq_true (by kernel_rfl))
                have hL4 := hdep 4 (List.mem_of_elem_eq_true (by kernel_rfl))
                have hL9 := hdep 9 (List.mem_of_elem_eq_true (by kernel_rfl))
                have e48 := (hv 0 48 rfl hL0).trans (hJ.vs 0 _ rfl hL0)
                have e52 := (hv 4 52 rfl hL4).trans (hJ.vs 4 _ rfl hL4)
                have e57 := (hv 9 57 rfl hL9).trans (hJ.vs 9 _ rfl hL9)
                have hw := hJ.w0 hLi
                subst hw
                have hno : ∀ j, 11 ≤ j → Lx j = false := fun j hj => by
                  cases e : Lx j with
                  | false => rfl
                  | true => rw [hJ.dd j hj e] at hLi; cases hLi
                have hG := hJ.vs
                refine step_enter rfl ?hr HBD.out (fun e w5 hp => ?_)
                case hr =>
                  have ef : a.eval (.func 73) = .func (.func 73) #[] #[] := rfl
                  clear hJ hdep hv h0 hK hG hno
                  generalize a.eval = ρ at *
                  simp [go_sem, execOp, e48, e52, e57, ef]
                obtain ⟨q1, q2, s1, s2, rfl, hra, hrb, hb5⟩ := hp
                exact ⟨_, rfl, hK _ _ ⟨q1, q2, s1, s2, fun e => (by cases e), fun _ => ⟨w5, hb5, hra, hrb, by rw [if_neg (by show ¬ Lx 14 = true; rw [hno 14 (by omega)]; simp)]⟩, vsAdd hG (fun u e => absurd (show (none : Option Value) = some u from e) (by simp)), fun j u e hl => (by
                  by_cases h : j = 10
                  · subst h; exact Option.some.inj e
                  · have hj : 11 ≤ j := by
                      rcases Nat.lt_or_ge j 11 with h' | h'
                      · exfalso
                        match j, h', h, e with
                        | 0, _, _, e => cases e
                        | 1, _, _, e => cases e
                        | 2, _, _, e => cases e
                        | 3, _, _, e => cases e
                        | 4, _, _, e => cases e
                        | 5, _, _, e => cases e
                        | 6, _, _, e => cases e
                        | 7, _, _, e => cases e
                        | 8, _, _, e => cases e
                        | 9, _, _, e => cases e
                        | 10, _, h, _ => exact h rfl
                        | j + 11, h', _, _ => omega
                      · exact h'
                    have e2 : setL Lx 10 j = true := hl
                    unfold setL at e2
                    rw [if_neg h, hno j hj] at e2
                    cases e2), fun _ _ _ => rfl, fun _ => ⟨hL0, hL4, hL9⟩⟩⟩
              case s11 =>
                intro Lx f a wz hJ hLi hdep hv h0 K hK
                obtain ⟨q1, q2, s1, s2, hJ⟩ := hJ
                have hL10 := hdep 10 (List.mem_of_elem_eq_true (by kernel_rfl))
                have e58 := (hv 10 58 rfl hL10).trans (hJ.v2 10 _ rfl hL10)
                refine step_val rfl (v := .tuple #[.agg #[.slice q1 bs2.length q2, .slice s1 bs2.length s2, .slice k1 ls.length k2], .bool ob2.isSome]) (w' := wz) ?_ (hK _ _ ⟨q1, q2, s1, s2, hJ.w0, hJ.w1, vsAdd hJ.vs (fun u e => absurd (show (none : Option Value) = some u from e) (by simp)), vsAdd hJ.v2 (fun u e => Option.some.inj e), fun j hj hl => (by by_cases h : j = 11; exact (by first | exact hL10 | exact hJ.dd 11 (by omega) hL11 | exact hJ.dd 13 (by omega) hL13); exact hJ.dd j hj (by have e : setL Lx 11 j = true := hl; unfold setL at e; rwa [if_neg h] at e)), hJ.d0⟩)
                clear hJ hdep hv h0 hK
                generalize a.eval = ρ at *
                simp [go_sem, execOp, *]
              case s12 =>
                intro Lx f a wz hJ hLi hdep hv h0 K hK
                obtain ⟨q1, q2, s1, s2, hJ⟩ := hJ
                have hL11 := hdep 11 (List.mem_of_elem_eq_true (by kernel_rfl))
                have e47 := (hv 11 47 rfl hL11).trans (hJ.v2 11 _ rfl hL11)
                refine step_val rfl (v := .agg #[.slice q1 bs2.length q2, .slice s1 bs2.length s2, .slice k1 ls.length k2]) (w' := wz) ?_ (hK _ _ ⟨q1, q2, s1, s2, hJ.w0, hJ.w1, vsAdd hJ.vs (fun u e => absurd (show (none : Option Value) = some u from e) (by simp)), vsAdd hJ.v2 (fun u e => Option.some.inj e), fun j hj hl => (by by_cases h : j = 12; exact (by first | exact hL10 | exact hJ.dd 11 (by omega) hL11 | exact hJ.dd 13 (by omega) hL13); exact hJ.dd j hj (by have e : setL Lx 12 j = true := hl; unfold setL at e; rwa [if_neg h] at e)), hJ.d0⟩)
                clear hJ hdep hv h0 hK
                generalize a.eval = ρ at *
                simp [go_sem, execOp, *]
              case s13 =>
                intro Lx f a wz hJ hLi hdep hv h0 K hK
                obtain ⟨q1, q2, s1, s2, hJ⟩ := hJ
                have hL11 := hdep 11 (List.mem_of_elem_eq_true (by kernel_rfl))
                have e47 := (hv 11 47 rfl hL11).trans (hJ.v2 11 _ rfl hL11)
                refine step_val rfl (v := .bool ob2.isSome) (w' := wz) ?_ (hK _ _ ⟨q1, q2, s1, s2, hJ.w0, hJ.w1, vsAdd hJ.vs (fun u e => absurd (show (none : Option Value) = some u from e) (by simp)), vsAdd hJ.v2 (fun u e => Option.some.inj e), fun j hj hl => (by by_cases h : j = 13; exact (by first | exact hL10 | exact hJ.dd 11 (by omega) hL11 | exact hJ.dd 13 (by omega) hL13); exact hJ.dd j hj (by have e : setL Lx 13 j = true := hl; unfold setL at e; rwa [if_neg h] at e)), hJ.d0⟩)
                clear hJ hdep hv h0 hK
                generalize a.eval = ρ at *
                simp [go_sem, execOp, *]
              case s14 =>
                intro Lx f a wz hJ hLi hdep hv h0 K hK
                obtain ⟨q1, q2, s1, s2, hJ⟩ := hJ
                have hL12 := hdep 12 (List.mem_of_elem_eq_true (by kernel_rfl))
                have e59 := (hv 12 59 rfl hL12).trans (hJ.v2 12 _ rfl hL12)
                have e9 : a.eval (.tmp 9) = .pointer (some ⟨tb, 0, none⟩) := (h0 9 (noDst_spec (by kernel_rfl))).trans rfl
                have hL10 := hJ.dd 12 (by omega) hL12
                obtain ⟨w5, hb5, hra, hrb, hw⟩ := hJ.w1 hL10
                rw [hLi, if_neg (by simp)] at hw
                have hw := hw.symm
                subst hw
                have hcb := HKW.out w5 (pure_trans hw0 hb5)
                have v0 : w5.cell? ⟨tb, 0, none⟩ = some (.slice p1 bs.length p2) := mem_cells hcb 0
                have v1 : w5.cell? ⟨tb, 1, none⟩ = some (.slice r1 bs.length r2) := mem_cells hcb 1
                have v2 : w5.cell? ⟨tb, 2, none⟩ = some (.slice k1 ls.length k2) := mem_cells hcb 2
                have f0 : w5.frozen? ⟨tb, 0, none⟩ = false := frozen_cells hcb 0
                have f1 : w5.frozen? ⟨tb, 1, none⟩ = false := frozen_cells hcb 1
                have f2 : w5.frozen? ⟨tb, 2, none⟩ = false := frozen_cells hcb 2
                have hk := hK undef (store3 w5 tb (.slice q1 bs2.length q2) (.slice s1 bs2.length s2) (.slice k1 ls.length k2)) ⟨q1, q2, s1, s2, fun e => absurd (show Lx 10 = false from e) (by rw [hL10]; simp), fun _ => ⟨w5, hb5, hra, hrb, by rw [if_pos (show setL Lx 14 14 = true from rfl)]⟩, vsAdd hJ.vs (fun u e => absurd (show (none : Option Value) = some u from e) (by simp)), vsAdd hJ.v2 (fun u e => absurd (show (none : Option Value) = some u from e) (by simp)), fun j hj _ => hL10, hJ.d0⟩
                refine step_skip rfl ?_ hk
                clear hJ hdep hv h0 hK hk hb5 hra hrb hcb
                generalize a.eval = ρ at *
                simp [go_sem, execOp, store3, *]
              case s15 =>
                intro Lx f a wz hJ hLi hdep hv h0 K hK
                obtain ⟨q1, q2, s1, s2, hJ⟩ := hJ
                have hL13 := hdep 13 (List.mem_of_elem_eq_true (by kernel_rfl))
                have e60 := (hv 13 60 rfl hL13).trans (hJ.v2 13 _ rfl hL13)
                refine step_val rfl (v := .bool ob2.isSome) (w' := wz) ?_ (hK _ _ ⟨q1, q2, s1, s2, hJ.w0, hJ.w1, vsAdd hJ.vs (fun u e => absurd (show (none : Option Value) = some u from e) (by simp)), vsAdd hJ.v2 (fun u e => Option.some.inj e), fun j hj hl => (by by_cases h : j = 15; exact (by first | exact hL10 | exact hJ.dd 11 (by omega) hL11 | exact hJ.dd 13 (by omega) hL13); exact hJ.dd j hj (by have e : setL Lx 15 j = true := hl; unfold setL at e; rwa [if_neg h] at e)), hJ.d0⟩)
                clear hJ hdep hv h0 hK
                generalize a.eval = ρ at *
                simp [go_sem, execOp, *]
            case ends =>
              intro Lx f w9 hJ hall
              obtain ⟨q1, q2, s1, s2, hJ⟩ := hJ
              obtain ⟨w5, hb5, hra, hrb, hw⟩ := hJ.w1 (hall 10 (by decide))
              rw [if_pos (hall 14 (by decide))] at hw
              have hb5' := pure_trans hw0 hb5
              have HR9 := Lib.hid (HR8.out.next hb5' hra hrb)
              have e15 := hJ.v2 15 _ rfl (hall 15 (by decide))
              obtain ⟨Y, hY⟩ : ∃ Y, Y = store3 w5 tb (.slice q1 bs2.length q2) (.slice s1 bs2.length s2) (.slice k1 ls.length k2) := ⟨_, rfl⟩
              rw [← hY] at HR9 hw
              have hw := hw.symm
              subst hw
              simp only [putAll, Exit.then, Nat.reduceAdd]
              go_frame
              rw [e15]
              clear hJ hall hY hb5 hb5' hra hrb e15
              go_at_K
              cases ob2 with
              | none =>
                have HNX := Lib.hid (show (L.take (k + 1)).flatMap (wayF ⟨x1, x2, x3⟩ bd L av ls) = acc from by
                  rw [HFM.out]
                  unfold wayF
                  rw [if_pos (of_decide_eq_true (HE.out.symm.trans h1)), HBF2.out]
                  exact List.append_nil _)
                have HBE := Lib.hid (pure_trans HB8.out HR9.out.bl)
                have HOE := Lib.hid (HO8.out.keeps HR9.out.bl)
                have HBXE := Lib.hid ((HR9.out.bl.block w.heap.size (by have := (Array.getElem?_eq_some_iff.1 HBX8.out).1; omega)).trans HBX8.out)
                clear HR8 HFM HE HBF2 HBO2 HR9
                go_wp2
                go_roundw
                case rel => exact ⟨k + 1, by omega, by go_num, by rw [HNX.out]; exact HOE, HBE, HBXE⟩
                case measure => simp [intOf]; omega
              | some bs3 =>
                obtain rfl : bs2 = bs3 := HBO2.out
                go_wp2_with fail
                have HWY := Lib.hid (show ((L.take (k + 1)).flatMap (wayF ⟨x1, x2, x3⟩ bd L av ls)) = acc ++ ways bd L bs2 (ls ++ [(⟨y1, y2, y3⟩ : Fct)]) from by
                  rw [HFM.out]
                  unfold wayF
                  rw [if_pos (of_decide_eq_true (HE.out.symm.trans h1)), HBF2.out])
                have HBY := Lib.hid (pure_trans HB8.out HR9.out.bl)
                have HOY := Lib.hid (HO8.out.keeps HR9.out.bl)
                have HTB := Lib.hid HR9.out.hi
                have HCB := Lib.hid HR9.out.cb
                have htw : tb ≠ w.heap.size := by have := HR9.out.lo; have := (Array.getElem?_eq_some_iff.1 HBX8.out).1; omega
                have hbxy := (HR9.out.bl.block w.heap.size (by have := (Array.getElem?_eq_some_iff.1 HBX8.out).1; omega)).trans HBX8.out
                have HBXY := Lib.hid hbxy
                have HMY := Lib.hid (show ∀ b, b < W8.heap.size → b ≠ tb ∧ b < Y.heap.size from fun b h => ⟨by have := HR9.out.lo; omega, Nat.lt_of_lt_of_le h HR9.out.bl.size⟩)
                have HCY := Lib.hid (show tFcts.rv ((mem Y.drew).on (fun q => q ≠ tb ∧ q < Y.drew.heap.size)) [.slice k1 ls.length k2] ls from tFcts.mono _ _ _ _ (fun b o u e => by
                  obtain ⟨hs, e⟩ := Mem.of_on e
                  have hw := mem_lt e
                  have hw8 : b < W8.heap.size := Nat.lt_of_lt_of_le hw HB8.out.size
                  exact Mem.on_some (below_mem HBY.out _ _ _ e) (HMY.out b hw8)) HCC.out)
                have HYC := Lib.hid (show ∀ wz, Keeps (fun q => q = tb ∨ Y.drew.heap.size ≤ q) Y.drew wz → ∀ b o u, b < W8.heap.size → Y.cell? ⟨b, o, none⟩ = some u → wz.cell? ⟨b, o, none⟩ = some u from fun wz hk b o u hb e => by
                  have h2 := HMY.out b hb
                  exact (mem_of_block (hk.block b h2.2 (by rintro (h | h); exact h2.1 h; (have h : Y.heap.size ≤ b := h; omega))) o).trans e)
                have hb8b : bb < W8.heap.size := World.block_lt_of_cell? W8 ⟨bb, bo + k * 3, none⟩ c0'
                have hw8 : w.heap.size < W8.heap.size := (Array.getElem?_eq_some_iff.1 HBX8.out).1
                have HC12 := Lib.hid (show ∀ wz, Keeps (fun q => q = tb ∨ Y.drew.heap.size ≤ q) Y.drew wz → wz.cell? ⟨w.heap.size, 2, none⟩ = some (.slice k1 ls.length k2) ∧ wz.cell? ⟨bb, bo + k * 3, none⟩ = some (.string y1) ∧ wz.cell? ⟨bb, bo + k * 3 + 1, none⟩ = some (.string y2) ∧ wz.cell? ⟨bb, bo + k * 3 + 2, none⟩ = some (.string y3) from fun wz hk =>
                  ⟨HYC.out wz hk _ _ _ hw8 (mem_cells hbxy 2), HYC.out wz hk _ _ _ hb8b (below_mem HR9.out.bl _ _ _ c0'), HYC.out wz hk _ _ _ hb8b (below_mem HR9.out.bl _ _ _ c1'), HYC.out wz hk _ _ _ hb8b (below_mem HR9.out.bl _ _ _ c2'')⟩)
                clear HR8 HFM HE HBF2 HBO2 hbxy hb8b hw8 htw HYC HMY c0' c1' c2'' c2' d2 y0 y1' y2' z0 z1 z2 HBW HOW HBXW HKW HWS HBD hw0
                refine wp_region_inv (by kernel_rfl) (by kernel_rfl) (by kernel_rfl) (J12 Y.drew tb (.slice q1 bs2.length q2) (.slice s1 bs2.length s2) (.slice k1 ls.length k2) ls ⟨y1, y2, y3⟩ (g12 w.heap.size tb bb bo k (.slice k1 ls.length k2) (.slice (some ⟨bb, bo, none⟩) L.length cl) ⟨y1, y2, y3⟩)) ?start (AllAt.all ?steps) ?ends
                case start => exact ⟨BK.start HTB.out, fun i u _ e => (by cases e), fun e => (by cases e), fun _ => HCB.out, fun e => (by cases e)⟩
                case steps =>
                  refine AllAt.cons 1 ?s0 (AllAt.cons 2 ?s1 (AllAt.cons 3 ?s2 (AllAt.cons 4 ?s3 (AllAt.cons 5 ?s4 (AllAt.cons 6 ?s5 (AllAt.cons 7 ?s6 (AllAt.cons 8 ?s7 (AllAt.cons 9 ?s8 (AllAt.cons 10 ?s9 (AllAt.cons 11 ?s10 (AllAt.cons 12 ?s11 (AllAt.nil) rfl) rfl) rfl) rfl) rfl) rfl) rfl) rfl) rfl) rfl) rfl) rfl
                  case s0 =>
                    intro Lx f a wz hJ hLi hdep hv h0 K hK
                    have hL11 : Lx 11 = false := by
                      cases e : Lx 11 with
                      | false => rfl
                      | true => exact absurd (hJ.d11 e) (by intro h; first | (rw [hLi] at h; cases h) | (have h1 := hJ.k.A.d2 h; rw [hLi] at h1; cases h1) | (have h1 := hJ.k.A.d1 (hJ.k.A.d2 h); rw [hLi] at h1; cases h1))
                    have hk := hJ.k
                    rw [hLi] at hk
                    have h5 := hk.lit
                    refine step_val rfl (v := .slice (some ⟨wz.heap.size, 0, none⟩) 0 0) (w' := wz.alloc (.cells #[] 33)) ?_ (hK _ _ ⟨h5.1, vsAdd hJ.vs (fun u e => absurd (show (none : Option Value) = some u from e) (by simp)), fun e => absurd (show Lx 11 = true from e) (by rw [hL11]; simp), fun e => h5.2.trans (hJ.s1 e), fun e => absurd (show Lx 11 = true from e) (by rw [hL11]; simp)⟩)
                    clear hJ hdep hv h0 hK
                    simp [go_sem, execOp]
                  case s1 =>
                    intro Lx f a wz hJ hLi hdep hv h0 K hK
                    have e5 : a.eval (.tmp 5) = .pointer (some ⟨w.heap.size, 0, none⟩) := (h0 5 (noDst_spec (by kernel_rfl))).trans rfl
                    refine step_val rfl (v := .pointer (some ⟨w.heap.size, 2, none⟩)) (w' := wz) ?_ (hK _ _ ⟨hJ.k, vsAdd hJ.vs (fun u e => Option.some.inj e), hJ.d11, hJ.s1, hJ.s2⟩)
                    clear hJ hdep hv h0 hK
                    generalize a.eval = ρ at *
                    simp [go_sem, execOp, *]
                  case s2 =>
                    intro Lx f a wz hJ hLi hdep hv h0 K hK
                    have hL1 := hdep 1 (List.mem_of_elem_eq_true (by kernel_rfl))
                    have e63 := (hv 1 63 rfl hL1).trans (hJ.vs 1 _ rfl hL1)
                    obtain ⟨c2, x0, x1', x2'⟩ := HC12.out wz hJ.k.kp
                    refine step_val rfl (v := .slice k1 ls.length k2) (w' := wz) ?_ (hK _ _ ⟨hJ.k, vsAdd hJ.vs (fun u e => Option.some.inj e), hJ.d11, hJ.s1, hJ.s2⟩)
                    clear hJ hdep hv h0 hK
                    generalize a.eval = ρ at *
                    simp [go_sem, execOp, *]
                  case s3 =>
                    intro Lx f a wz hJ hLi hdep hv h0 K hK
                    have hL11 : Lx 11 = false := by
                      cases e : Lx 11 with
                      | false => rfl
                      | true => exact absurd (hJ.d11 e) (by intro h; first | (rw [hLi] at h; cases h) | (have h1 := hJ.k.A.d2 h; rw [hLi] at h1; cases h1) | (have h1 := hJ.k.A.d1 (hJ.k.A.d2 h); rw [hLi] at h1; cases h1))
                    have hL0 := hdep 0 (List.mem_of_elem_eq_true (by kernel_rfl))
                    have hL2 := hdep 2 (List.mem_of_elem_eq_true (by kernel_rfl))
                    have e64 := (hv 2 64 rfl hL2).trans (hJ.vs 2 _ rfl hL2)
                    have hk := hJ.k
                    have hLz : Lx 9 = false := by
                      cases e : Lx 9 with
                      | false => rfl
                      | true => exact absurd (hk.A.d2 e) (by rw [hLi]; simp)
                    obtain ⟨g, e0, hg⟩ := hk.A.a0 hL0 hLi hLz
                    have e62 := (hv 0 62 rfl hL0).trans e0
                    refine step_append_os rfl (.tmp 62) (.tmp 64) 23 rfl tFct tFct_flat tFct_oneW Try.underlying23 infoFct rfl (by decide) _ [] ls e62 (lit0_of _ hg) _ _ _ e64 rfl (tFcts.mono _ _ _ _ (keeps_mem' hk.kp (fun b hb => by rintro (h | h); exact hb.1 h; exact absurd hb.2 (by omega))) HCY.out) (by simp; unfold maxLen; omega) (by simp; omega) ?_
                    intro v5 w5 own5 happ
                    rw [List.nil_append] at own5
                    have h5 := hk.copy hL0 hLi own5 (by rw [e0]; exact happ)
                    exact hK _ _ ⟨h5.1, vsAdd hJ.vs (fun u e => absurd (show (none : Option Value) = some u from e) (by simp)), fun e => absurd (show Lx 11 = true from e) (by rw [hL11]; simp), fun e => h5.2.trans (hJ.s1 e), fun e => absurd (show Lx 11 = true from e) (by rw [hL11]; simp)⟩
                  case s4 =>
                    intro Lx f a wz hJ hLi hdep hv h0 K hK
                    have e1 : a.eval (.tmp 1) = .slice (some ⟨bb, bo, none⟩) L.length cl := (h0 1 (noDst_spec (by kernel_rfl))).trans rfl
                    refine step_val rfl (v := .slice (some ⟨bb, bo, none⟩) L.length cl) (w' := wz) ?_ (hK _ _ ⟨hJ.k, vsAdd hJ.vs (fun u e => Option.some.inj e), hJ.d11, hJ.s1, hJ.s2⟩)
                    clear hJ hdep hv h0 hK
                    generalize a.eval = ρ at *
                    simp [go_sem, execOp, *]
                  case s5 =>
                    intro Lx f a wz hJ hLi hdep hv h0 K hK
                    have e8 : a.eval (.tmp 8) = .int .i64 k := (h0 8 (noDst_spec (by kernel_rfl))).trans rfl
                    refine step_val rfl (v := .int .i64 k) (w' := wz) ?_ (hK _ _ ⟨hJ.k, vsAdd hJ.vs (fun u e => Option.some.inj e), hJ.d11, hJ.s1, hJ.s2⟩)
                    clear hJ hdep hv h0 hK
                    generalize a.eval = ρ at *
                    simp [go_sem, execOp, *]
                  case s6 =>
                    intro Lx f a wz hJ hLi hdep hv h0 K hK
                    have hL4 := hdep 4 (List.mem_of_elem_eq_true (by kernel_rfl))
                    have hL5 := hdep 5 (List.mem_of_elem_eq_true (by kernel_rfl))
                    have e66 := (hv 4 66 rfl hL4).trans (hJ.vs 4 _ rfl hL4)
                    have e67 := (hv 5 67 rfl hL5).trans (hJ.vs 5 _ rfl hL5)
                    refine step_val rfl (v := .pointer (some ⟨bb, bo + k * 3, none⟩)) (w' := wz) ?_ (hK _ _ ⟨hJ.k, vsAdd hJ.vs (fun u e => Option.some.inj e), hJ.d11, hJ.s1, hJ.s2⟩)
                    clear hJ hdep hv h0 hK
                    generalize a.eval = ρ at *
                    simp [go_sem, execOp, *]
                  case s7 =>
                    intro Lx f a wz hJ hLi hdep hv h0 K hK
                    have hL6 := hdep 6 (List.mem_of_elem_eq_true (by kernel_rfl))
                    have e68 := (hv 6 68 rfl hL6).trans (hJ.vs 6 _ rfl hL6)
                    obtain ⟨c2, x0, x1', x2'⟩ := HC12.out wz hJ.k.kp
                    refine step_val rfl (v := .agg #[.string y1, .string y2, .string y3]) (w' := wz) ?_ (hK _ _ ⟨hJ.k, vsAdd hJ.vs (fun u e => Option.some.inj e), hJ.d11, hJ.s1, hJ.s2⟩)
                    clear hJ hdep hv h0 hK
                    generalize a.eval = ρ at *
                    simp [go_sem, execOp, *]
                  case s8 =>
                    intro Lx f a wz hJ hLi hdep hv h0 K hK
                    have hL7 := hdep 7 (List.mem_of_elem_eq_true (by kernel_rfl))
                    have e69 := (hv 7 69 rfl hL7).trans (hJ.vs 7 _ rfl hL7)
                    have hk := hJ.k
                    rw [hLi] at hk
                    have h5 := hk.one
                    have S2 := Lib.hid (fun e => h5.2.trans (hJ.s2 e))
                    have S1 := Lib.hid (fun e => h5.2.trans (hJ.s1 e))
                    refine step_val rfl (v := .slice (some ⟨wz.heap.size, 0, none⟩) 1 1) (w' := wz.alloc (.cells #[.string y1, .string y2, .string y3] 33)) ?_ (hK _ _ ⟨h5.1, vsAdd hJ.vs (fun u e => absurd (show (none : Option Value) = some u from e) (by simp)), hJ.d11, S1.out, S2.out⟩)
                    clear hJ hdep hv h0 hK h5 S1 S2
                    generalize a.eval = ρ at *
                    simp [go_sem, execOp, e69]
                  case s9 =>
                    intro Lx f a wz hJ hLi hdep hv h0 K hK
                    have hL11 : Lx 11 = false := by
                      cases e : Lx 11 with
                      | false => rfl
                      | true => exact absurd (hJ.d11 e) (by intro h; first | (rw [hLi] at h; cases h) | (have h1 := hJ.k.A.d2 h; rw [hLi] at h1; cases h1) | (have h1 := hJ.k.A.d1 (hJ.k.A.d2 h); rw [hLi] at h1; cases h1))
                    have hL3 := hdep 3 (List.mem_of_elem_eq_true (by kernel_rfl))
                    have hL8 := hdep 8 (List.mem_of_elem_eq_true (by kernel_rfl))
                    have hk := hJ.k
                    obtain ⟨g, e1, -, hg, -⟩ := hk.la hL8
                    have e65 := hv 3 65 rfl hL3
                    have e70 := (hv 8 70 rfl hL8).trans e1
                    refine step_append_os rfl (.tmp 65) (.tmp 70) 23 rfl tFct tFct_flat tFct_oneW Try.underlying23 infoFct rfl (by decide) _ ls [(⟨y1, y2, y3⟩ : Fct)] e65 (hk.A.a1 hL3 hLi) _ _ _ e70 rfl (slice_one (cs := [.string y1, .string y2, .string y3]) (fun j u hj => by
                      have hm := mem_cells hg (0 + j)
                      rw [hm]
                      match j, hj with | 0, hj => simpa using hj | 1, hj => simpa using hj | 2, hj => simpa using hj) ⟨rfl, HYO.out⟩) (by simp; unfold maxLen; omega) (by simp; omega) ?_
                    intro v5 w5 own5 happ
                    have h5 := hk.more hL3 hLi own5 happ
                    exact hK _ _ ⟨h5.1, vsAdd hJ.vs (fun u e => absurd (show (none : Option Value) = some u from e) (by simp)), fun e => absurd (show Lx 11 = true from e) (by rw [hL11]; simp), fun e => h5.2.trans (hJ.s1 e), fun e => absurd (show Lx 11 = true from e) (by rw [hL11]; simp)⟩
                  case s10 =>
                    intro Lx f a wz hJ hLi hdep hv h0 K hK
                    have e9 : a.eval (.tmp 9) = .pointer (some ⟨tb, 0, none⟩) := (h0 9 (noDst_spec (by kernel_rfl))).trans rfl
                    refine step_val rfl (v := .pointer (some ⟨tb, 2, none⟩)) (w' := wz) ?_ (hK _ _ ⟨hJ.k, vsAdd hJ.vs (fun u e => Option.some.inj e), hJ.d11, hJ.s1, hJ.s2⟩)
                    clear hJ hdep hv h0 hK
                    generalize a.eval = ρ at *
                    simp [go_sem, execOp, *]
                  case s11 =>
                    intro Lx f a wz hJ hLi hdep hv h0 K hK
                    have hL9 := hdep 9 (List.mem_of_elem_eq_true (by kernel_rfl))
                    have hL10 := hdep 10 (List.mem_of_elem_eq_true (by kernel_rfl))
                    have e72 := (hv 10 72 rfl hL10).trans (hJ.vs 10 _ rfl hL10)
                    obtain ⟨a9, c9, q9, -⟩ := (hJ.k.A.a2 hL9).form
                    have e71 := (hv 9 71 rfl hL9).trans q9
                    have hb := hJ.s1 hLi
                    have z2 : wz.cell? ⟨tb, 2, none⟩ = some (.slice k1 ls.length k2) := mem_cells hb 2
                    have y2' : wz.frozen? ⟨tb, 2, none⟩ = false := frozen_cells hb 2
                    have hst := set2_block (u := .slice a9 (ls ++ [(⟨y1, y2, y3⟩ : Fct)]).length c9) hb
                    have hk2 := hJ.k.res ((Keeps.refl (fun k => k = tb) wz).setCell (p := ⟨tb, 2, none⟩) (fun _ => rfl) (.slice a9 (ls ++ [(⟨y1, y2, y3⟩ : Fct)]).length c9))
                    have hk := hK undef _ ⟨hk2, vsAdd hJ.vs (fun u e => absurd (show (none : Option Value) = some u from e) (by simp)), fun _ => hL9, fun e => (by cases e), fun _ => by rw [hst]; show _ = some (Obj.cells #[_, _, f 9] _ _); rw [q9]⟩
                    refine step_skip rfl ?_ hk
                    clear hJ hdep hv h0 hK hk hst hk2 hb
                    generalize a.eval = ρ at *
                    simp [go_sem, execOp, *]
                case ends =>
                  intro Lx f w9 hJ hall
                  obtain ⟨a9, c9, q9, -⟩ := (hJ.k.A.a2 (hall 9 (by decide))).form
                  have hb := hJ.s2 (hall 11 (by decide))
                  rw [q9] at hb
                  have HO9 := Lib.hid (hJ.k.A.a2 (hall 9 (by decide)))
                  rw [q9] at HO9
                  have HL9 := Lib.hid (fun k e => (hJ.k.A.lt k (show cblk (Lx 0) (Lx 3) (Lx 9) (f 0) (f 3) (f 9) = some k by rw [hall 9 (by decide), q9]; exact e)).1)
                  have HKP := Lib.hid hJ.k.kp
                  have HCB9 := Lib.hid hb
                  simp only [putAll, Exit.then, Nat.reduceAdd]
                  go_frame
                  clear hJ hall hb q9
                  have HKW9 := Lib.hid (show Below W8.heap.size W8 w9 from HR9.out.bl.trans ((show Keeps _ Y w9 from ⟨HKP.out.os, HKP.out.tape, HKP.out.output, HKP.out.size, HKP.out.block⟩).below HR9.out.bl.size (fun q e => by
                    rcases e with e | e
                    · subst e; exact HR9.out.lo
                    · have e : Y.heap.size ≤ q := e
                      exact Nat.le_trans HR9.out.bl.size e)))
                  have HB9 := Lib.hid (pure_trans HB8.out HKW9.out)
                  have HS9 := Lib.hid (show W8.heap.size ≤ w9.heap.size from HKW9.out.size)
                  obtain ⟨S2, hS2⟩ : ∃ S2 : Nat → Prop, S2 = fun q => (S q ∨ W8.heap.size ≤ q) ∧ q < w9.heap.size := ⟨_, rfl⟩
                  have hm9 : ((mem w).on S).le ((mem w9).on S2) := fun b o u e => by
                    obtain ⟨hs, e⟩ := Mem.of_on e
                    have hm := below_mem HB9.out _ _ _ e
                    rw [hS2]
                    exact Mem.on_some hm ⟨.inl hs, mem_lt hm⟩
                  have hmY : ((mem Y).on (fun q => (S q ∨ W8.heap.size ≤ q) ∧ q ≠ tb)).le ((mem w9).on S2) := fun b o u e => by
                    obtain ⟨hs, e⟩ := Mem.of_on e
                    have hlt := mem_lt e
                    have hm := (mem_of_block (HKP.out.block b hlt (by rintro (h | h); exact hs.2 h; (have h : Y.heap.size ≤ b := h; omega))) o).trans e
                    rw [hS2]
                    exact Mem.on_some hm ⟨hs.1, mem_lt hm⟩
                  have HRA := Lib.hid (tStrs.mono _ _ _ _ hmY HR9.out.ra)
                  have HRB := Lib.hid (tStrs.mono _ _ _ _ hmY HR9.out.rb)
                  have HRC := Lib.hid (HO9.out.rv tFct_flat (S := S2) (fun k e => by
                    rw [hS2]
                    have h1 : Y.heap.size ≤ k := HL9.out k e
                    exact ⟨.inr (Nat.le_trans HR9.out.bl.size h1), HO9.out.lt k e⟩))
                  have HRL := Lib.hid (tFcts.mono _ _ _ _ hm9 HLV0.out)
                  have hbv9 := tFcts.mono _ _ _ _ hm9 HBV0.out
                  obtain ⟨xa2, xc2, hcut, hcut2⟩ := cut_hi (n := 1) hbv9 (by simp) (T := 29) Try.underlying29 atmSize
                  have hcut' : ∀ w2, (Instr.slice 29 (.slice (some ⟨xb, xo, none⟩) (bd.length + 1) cb) (some (.int .i64 1)) none none).run Try.prog w2 = .ok (.slice xa2 bd.length xc2) w2 := fun w2 => by have := hcut w2; simpa using this
                  have HRV := Lib.hid (show tFcts.rv ((mem w9).on S2) [.slice xa2 bd.length xc2] bd from by have := hcut2; simpa using this)
                  have HS2 := Lib.hid hS2
                  have HO9b := Lib.hid (HO8.out.keeps HKW9.out)
                  have HOL := Lib.hid HO8.out.lt
                  have hx2 := (HKW9.out.block w.heap.size (by have := (Array.getElem?_eq_some_iff.1 HBX8.out).1; omega)).trans HBX8.out
                  have HBX9 := Lib.hid hx2
                  have t0 : w9.cell? ⟨tb, 0, none⟩ = some (.slice q1 bs2.length q2) := mem_cells HCB9.out 0
                  have t1 : w9.cell? ⟨tb, 1, none⟩ = some (.slice s1 bs2.length s2) := mem_cells HCB9.out 1
                  have t2 : w9.cell? ⟨tb, 2, none⟩ = some (.slice a9 (ls ++ [(⟨y1, y2, y3⟩ : Fct)]).length c9) := mem_cells HCB9.out 2
                  rw [show (ls ++ [(⟨y1, y2, y3⟩ : Fct)]).length = ls.length + 1 from by simp] at HRC
                  have HCALL := Lib.hid (HIH.out S2 bs2 (ls ++ [(⟨y1, y2, y3⟩ : Fct)]) (.slice xa2 bd.length xc2) (.slice (some ⟨bb, bo, none⟩) L.length cl) (.slice q1 bs2.length q2) (.slice s1 bs2.length s2) (.slice a9 (ls.length + 1) c9) w9.drew
                    (by have := HBL.out; have := HBL2.out; omega) (by simp; omega) (fun q h => by rw [HS2.out] at h; exact h.2) HRV.out HRL.out HRA.out HRB.out HRC.out)
                  have HWL := Lib.hid (ways_le2 hL hbd bs2 (ls ++ [(⟨y1, y2, y3⟩ : Fct)]))
                  obtain ⟨a7, c7, rfl, -⟩ := HO8.out.len
                  clear hcut hcut2 hbv9 hm9 hmY hS2 HR9 HRA HRB HRC HRL HRV HO9 HL9 HKP HCB9 hx2 HIH HBL HBL2 HB8 HO8 HBX8 HTB HCB HCY HC12 HBY HOY HBXY
                  go_wp2_with fail
                  refine wp_region_inv2 (by kernel_rfl) (by kernel_rfl) (by kernel_rfl) (J13 w9.drew (fun v w10 => tWays.rv ((mem w10).on (fun k => S2 k ∨ w9.drew.heap.size ≤ k)) [v] (ways bd L bs2 (ls ++ [(⟨y1, y2, y3⟩ : Fct)])) ∧ Below w9.drew.heap.size w9.drew w10) (fun _ w10 v11 w11 => OwnsD tWay (fun q => S q ∨ w.heap.size ≤ q) w11 (w.heap.size + 1) 82 v11 (acc ++ (ways bd L bs2 (ls ++ [(⟨y1, y2, y3⟩ : Fct)]))) ∧ w10.grownBy w11 (Value.slice a7 acc.length c7).ownBlock) (g13 (.slice a7 acc.length c7) (.slice (some ⟨xb, xo, none⟩) (bd.length + 1) cb) (.slice xa2 bd.length xc2) (.slice (some ⟨bb, bo, none⟩) L.length cl) (.agg #[.slice q1 bs2.length q2, .slice s1 bs2.length s2, .slice a9 (ls.length + 1) c9]))) ?start13 (AllAt.all ?steps13) ?ends13
                  case start13 => exact ⟨fun _ => rfl, fun e => (by cases e), fun i u _ e => (by cases e), fun e => (by cases e), fun e => (by cases e), fun e => (by cases e), fun e => (by cases e)⟩
                  case steps13 =>
                    refine AllAt.cons 1 ?v0 (AllAt.cons 2 ?v1 (AllAt.cons 3 ?v2 (AllAt.cons 4 ?v3 (AllAt.cons 5 ?v4 (AllAt.cons 6 ?v5 (AllAt.cons 7 ?v6 (AllAt.cons 8 ?v7 (AllAt.nil) rfl) rfl) rfl) rfl) rfl) rfl) rfl) rfl
                    case v0 =>
                      intro Lx f a wz hJ hLi hdep hv h0 K hK
                      have h7 : Lx 7 = false := by
                        cases e : Lx 7 with
                        | false => rfl
                        | true => have := (hJ.d6 (hJ.d7 e)).2; rw [hLi] at this; cases this
                      have e7 : a.eval (.tmp 7) = .slice a7 acc.length c7 := (h0 7 (fun j hl e => by
                        have hj := onlyDst_spec (i := 7) (by kernel_rfl) e
                        rw [hj, h7] at hl
                        cases hl)).trans rfl
                      refine step_val rfl (v := .slice a7 acc.length c7) (w' := wz) ?_ (hK _ _ ⟨hJ.w0, hJ.w1, vsAdd hJ.vs (fun u e => Option.some.inj e), hJ.v7, hJ.d5, fun e => ⟨(hJ.d6 e).1, rfl⟩, hJ.d7⟩)
                      clear hJ hdep hv h0 hK
                      generalize a.eval = ρ at *
                      simp [go_sem, execOp, e7]
                    case v1 =>
                      intro Lx f a wz hJ hLi hdep hv h0 K hK
                      have e0 : a.eval (.tmp 0) = .slice (some ⟨xb, xo, none⟩) (bd.length + 1) cb := (h0 0 (fun j _ => noDst_spec (by kernel_rfl) j)).trans rfl
                      refine step_val rfl (v := .slice (some ⟨xb, xo, none⟩) (bd.length + 1) cb) (w' := wz) ?_ (hK _ _ ⟨hJ.w0, hJ.w1, vsAdd hJ.vs (fun u e => Option.some.inj e), hJ.v7, hJ.d5, hJ.d6, hJ.d7⟩)
                      clear hJ hdep hv h0 hK
                      generalize a.eval = ρ at *
                      simp [go_sem, execOp, e0]
                    case v2 =>
                      intro Lx f a wz hJ hLi hdep hv h0 K hK
                      have hL5 : Lx 5 = false := by
                        cases e : Lx 5 with
                        | false => rfl
                        | true => exact absurd (hJ.d5 e) (by rw [hLi]; simp)
                      have hw := hJ.w0 hL5
                      subst hw
                      have hL1 := hdep 1 (List.mem_of_elem_eq_true (by kernel_rfl))
                      have e74 := (hv 1 74 rfl hL1).trans (hJ.vs 1 _ rfl hL1)
                      have ek : a.eval (.const (.int .i64 1)) = .int .i64 1 := rfl
                      refine step_val rfl (v := .slice xa2 bd.length xc2) (w' := w9.drew) ?_ (hK _ _ ⟨hJ.w0, hJ.w1, vsAdd hJ.vs (fun u e => Option.some.inj e), hJ.v7, fun e => absurd (show Lx 5 = true from e) (by rw [hL5]; simp), hJ.d6, hJ.d7⟩)
                      clear hJ hdep hv h0 hK
                      generalize a.eval = ρ at *
                      simp [go_sem, execOp, e74, ek, hcut']
                    case v3 =>
                      intro Lx f a wz hJ hLi hdep hv h0 K hK
                      have hL5 : Lx 5 = false := by
                        cases e : Lx 5 with
                        | false => rfl
                        | true => exact absurd (hJ.d5 e) (by rw [hLi]; simp)
                      have hw := hJ.w0 hL5
                      subst hw
                      have e1 : a.eval (.tmp 1) = .slice (some ⟨bb, bo, none⟩) L.length cl := (h0 1 (fun j _ => noDst_spec (by kernel_rfl) j)).trans rfl
                      refine step_val rfl (v := .slice (some ⟨bb, bo, none⟩) L.length cl) (w' := w9.drew) ?_ (hK _ _ ⟨hJ.w0, hJ.w1, vsAdd hJ.vs (fun u e => Option.some.inj e), hJ.v7, fun e => absurd (show Lx 5 = true from e) (by rw [hL5]; simp), hJ.d6, hJ.d7⟩)
                      clear hJ hdep hv h0 hK
                      generalize a.eval = ρ at *
                      simp [go_sem, execOp, e1]
                    case v4 =>
                      intro Lx f a wz hJ hLi hdep hv h0 K hK
                      have hL5 : Lx 5 = false := by
                        cases e : Lx 5 with
                        | false => rfl
                        | true => exact absurd (hJ.d5 e) (by rw [hLi]; simp)
                      have hw := hJ.w0 hL5
                      subst hw
                      have e9 : a.eval (.tmp 9) = .pointer (some ⟨tb, 0, none⟩) := (h0 9 (fun j _ => noDst_spec (by kernel_rfl) j)).trans rfl
                      refine step_val rfl (v := .agg #[.slice q1 bs2.length q2, .slice s1 bs2.length s2, .slice a9 (ls.length + 1) c9]) (w' := w9.drew) ?_ (hK _ _ ⟨hJ.w0, hJ.w1, vsAdd hJ.vs (fun u e => Option.some.inj e), hJ.v7, fun e => absurd (show Lx 5 = true from e) (by rw [hL5]; simp), hJ.d6, hJ.d7⟩)
                      clear hJ hdep hv h0 hK
                      generalize a.eval = ρ at *
                      simp [go_sem, execOp, e9, t0, t1, t2]
                    case v5 =>
                      intro Lx f a wz hJ hLi hdep hv h0 K hK
                      have hL2 := hdep 2 (List.mem_of_elem_eq_true (by kernel_rfl))
                      have hL3 := hdep 3 (List.mem_of_elem_eq_true (by kernel_rfl))
                      have hL4 := hdep 4 (List.mem_of_elem_eq_true (by kernel_rfl))
                      have e75 := (hv 2 75 rfl hL2).trans (hJ.vs 2 _ rfl hL2)
                      have e76 := (hv 3 76 rfl hL3).trans (hJ.vs 3 _ rfl hL3)
                      have e77 := (hv 4 77 rfl hL4).trans (hJ.vs 4 _ rfl hL4)
                      have hw := hJ.w0 hLi
                      subst hw
                      have h6 : Lx 6 = false := by
                        cases e : Lx 6 with
                        | false => rfl
                        | true => have := (hJ.d6 e).1; rw [hLi] at this; cases this
                      have h7 : Lx 7 = false := by
                        cases e : Lx 7 with
                        | false => rfl
                        | true => have := hJ.d7 e; rw [h6] at this; cases this
                      have hG := hJ.vs
                      refine step_enter rfl ?hr13 HCALL.out (fun e w10 hp => ?_)
                      case hr13 =>
                        have ef : a.eval (.func 55) = .func (.func 55) #[] #[] := rfl
                        clear hJ hdep hv h0 hK hG h6 h7
                        generalize a.eval = ρ at *
                        simp [go_sem, execOp, e75, e76, e77, ef]
                      obtain ⟨v10, rfl, hv10, hb10⟩ := hp
                      exact ⟨_, rfl, hK _ _ ⟨fun e => (by cases e), fun _ => ⟨w10, ⟨hv10, hb10⟩, fun _ => rfl, fun e => absurd (show Lx 6 = true from e) (by rw [h6]; simp)⟩, vsAdd hG (fun u e => absurd (show (none : Option Value) = some u from e) (by simp)), fun e => absurd (show Lx 7 = true from e) (by rw [h7]; simp), fun _ => ⟨hL2, hL3, hL4⟩, fun e => absurd (show Lx 6 = true from e) (by rw [h6]; simp), hJ.d7⟩⟩
                    case v6 =>
                      intro Lx f a wz hJ hLi hdep hv h0 K hK
                      have hL0 := hdep 0 (List.mem_of_elem_eq_true (by kernel_rfl))
                      have hL5 := hdep 5 (List.mem_of_elem_eq_true (by kernel_rfl))
                      have e73 := (hv 0 73 rfl hL0).trans (hJ.vs 0 _ rfl hL0)
                      obtain ⟨w10, ⟨hv10, hb10⟩, hw, -⟩ := hJ.w1 hL5
                      have hw := (hw hLi).symm
                      subst hw
                      have h7 : Lx 7 = false := by
                        cases e : Lx 7 with
                        | false => rfl
                        | true => have := hJ.d7 e; rw [hLi] at this; cases this
                      have HV10 := Lib.hid hv10
                      have HO10 := Lib.hid (HO9b.out.keeps (w' := w10) (pure_trans ((Below.refl _ w9).drew) hb10))
                      obtain ⟨a10, c10, q10, -⟩ := slice_form hv10
                      have e78 := (hv 5 78 rfl hL5).trans q10
                      refine step_append_d rfl (.tmp 73) (.tmp 78) 79 rfl tWay tWay_one Try.underlying79 infoWay rfl (by decide) (fun q => S q ∨ w.heap.size ≤ q) (w.heap.size + 1) _ acc (ways bd L bs2 (ls ++ [(⟨y1, y2, y3⟩ : Fct)])) e73 HO10.out _ _ _ e78 rfl ?m1 ?m2 ?m3 ?m4 ?_
                      case m1 =>
                        rw [← q10]
                        refine tWays.mono _ _ _ _ (fun b o u e => ?_) HV10.out
                        obtain ⟨hs, e⟩ := Mem.of_on e
                        have hsz := HB9.out.size
                        rw [HS2.out] at hs
                        have hge : S b ∨ W8.heap.size ≤ b := by
                          rcases hs with hs | hs
                          · exact hs.1
                          · have hs : w9.heap.size ≤ b := hs
                            have := HS9.out
                            exact .inr (by omega)
                        refine Mem.on_some e ⟨?_, fun hk => ?_⟩
                        · rcases hge with h | h
                          · exact .inl h
                          · exact .inr (by have := HW8.out; omega)
                        · have h2 := HOL.out b hk.symm
                          rcases hge with h | h
                          · have := HSS.out b h; omega
                          · omega
                      case m2 => have := HAL.out; have := HWL.out; unfold maxLen; omega
                      case m3 => have := HAL.out; have := HWL.out; omega
                      case m4 => have := HB9.out.size; have h2 : w9.heap.size ≤ w10.heap.size := hb10.size; have := (Array.getElem?_eq_some_iff.1 HBX9.out).1; omega
                      intro v11 w11 own11 hgr11
                      exact hK _ _ ⟨fun e => absurd (show Lx 5 = false from e) (by rw [hL5]; simp), fun _ => ⟨w10, ⟨hv10, hb10⟩, fun e => (by cases e), fun _ => ⟨own11, hgr11⟩⟩, vsAdd hJ.vs (fun u e => absurd (show (none : Option Value) = some u from e) (by simp)), fun e => absurd (show Lx 7 = true from e) (by rw [h7]; simp), hJ.d5, fun _ => ⟨hL5, hL0⟩, fun _ => rfl⟩
                    case v7 =>
                      intro Lx f a wz hJ hLi hdep hv h0 K hK
                      have hL6 := hdep 6 (List.mem_of_elem_eq_true (by kernel_rfl))
                      have e79 := hv 6 79 rfl hL6
                      refine step_val rfl (v := f 6) (w' := wz) ?_ (hK _ _ ⟨hJ.w0, hJ.w1, vsAdd hJ.vs (fun u e => absurd (show (none : Option Value) = some u from e) (by simp)), fun _ => rfl, hJ.d5, hJ.d6, fun _ => hL6⟩)
                      clear hJ hdep hv h0 hK
                      generalize a.eval = ρ at *
                      simp [go_sem, execOp, e79]
                  case ends13 =>
                    intro Lx f w11 hJ hall
                    obtain ⟨w10, ⟨hv10, hb10⟩, -, hap⟩ := hJ.w1 (hall 5 (by decide))
                    obtain ⟨own11, hgr11⟩ := hap (hall 6 (by decide))
                    have e7 := hJ.v7 (hall 7 (by decide))
                    obtain ⟨v11, hv11⟩ : ∃ v, v = f 6 := ⟨_, rfl⟩
                    rw [← hv11] at e7 own11
                    have HV10 := Lib.hid hv10
                    have HO10 := Lib.hid (HO9b.out.keeps (w' := w10) (pure_trans ((Below.refl _ w9).drew) hb10))
                    have HB10 := Lib.hid (show Below w.heap.size w w10 from pure_trans HB9.out (pure_trans ((Below.refl _ w9).drew) hb10))
                    have HBX10 := Lib.hid ((hb10.block w.heap.size (by have := (Array.getElem?_eq_some_iff.1 HBX9.out).1; exact this)).trans HBX9.out)
                    simp only [putAll, Exit.then, Nat.reduceAdd]
                    go_frame
                    rw [e7]
                    clear hJ hall hv10 hb10 hap e7 hv11 HCALL t0 t1 t2 hcut'
                    have HO11 := Lib.hid (show OwnsD tWay (fun q => S q ∨ w.heap.size ≤ q) w11 (w.heap.size + 1) 82 v11 ((L.take (k + 1)).flatMap (wayF ⟨x1, x2, x3⟩ bd L av ls)) from by rw [HWY.out]; exact own11)
                    obtain ⟨a11, c11, rfl, -⟩ := own11.len
                    have HB11 := Lib.hid (show Below w.heap.size w w11 from HB10.out.grown hgr11 HB10.out.size (fun k hk => by have := (HO10.out.lt k hk).1; omega))
                    have HBX11 := Lib.hid ((hgr11.block w.heap.size (Array.getElem?_eq_some_iff.1 HBX10.out).1 (fun e => by have := (HO10.out.lt _ e.symm).1; omega)).trans HBX10.out)
                    clear own11 hgr11 HO10 HV10 HWY HB10 HBX10
                    go_wp2
                    go_roundw
                    case rel => exact ⟨k + 1, by omega, by go_num, HO11, HB11, HBX11⟩
                    case measure => simp [intOf]; omega
    · obtain rfl : k = L.length := by omega
      have HR := Lib.hid (HO.out.rv (S' := fun q => S q ∨ w.heap.size ≤ q) (fun _ h => h) (fun _ h => .inr (by omega)))
      rw [List.take_length] at HR
      obtain ⟨ao, co, rfl, -⟩ := HO.out.len
      rw [List.take_length] at HR ⊢
      clear HO
      go_wp2
      go_ret
      exact ⟨_, rfl, HR.out, HB.out⟩
theorem refWays_any (L : List Fct) (hL : L.length ≤ 400) : ∀ (bd : List Fct) (S : Nat → Prop) (av : Bnd) (ls : List Fct) (bv lv a b c : Value) (w : World), bd.length ≤ 3 → av.length + 2 * bd.length ≤ 6 → ls.length + bd.length ≤ 3 → (∀ q, S q → q < w.heap.size) → tFcts.rv ((mem w).on S) [bv] bd → tFcts.rv ((mem w).on S) [lv] L →
    tStrs.rv ((mem w).on S) [a] (av.map Prod.fst) → tStrs.rv ((mem w).on S) [b] (av.map Prod.snd) → tFcts.rv ((mem w).on S) [c] ls → Calls Try.prog 55 #[bv, lv, .agg #[a, b, c]] w (WaysOut S bd L av ls w)
  | [], S, av, ls, bv, lv, a, b, c, w, _, _, _, _, h1, h2, h3, h4, h5 => refWays_nil L S av ls bv lv a b c w h1 h2 h3 h4 h5
  | x :: bd, S, av, ls, bv, lv, a, b, c, w, hb, ha, hl, hS, h1, h2, h3, h4, h5 =>
    refWays_cons L x bd S av ls bv lv a b c w (by simpa using hb) hL (by simp only [List.length_cons] at ha; omega) (by simp only [List.length_cons] at hl; omega) hS h1 h2 h3 h4 h5
      (fun S' av' ls' bv' lv' a' b' c' w' ha' hl' hS' g1 g2 g3 g4 g5 => refWays_any L hL bd S' av' ls' bv' lv' a' b' c' w' (by simp only [List.length_cons] at hb; omega) ha' hl' hS' g1 g2 g3 g4 g5)
end Go.Proofs.Ytafeaeaildfohaa
/- What follows is valid, closed and least: plain. -/
namespace Go.Proofs.Ytafeaeaildfohaa

/-- The values of variables are texts of facts. -/
theorem ways_le {n : Nat} {L : List Fct} (hL : ∀ x ∈ L, x.a.size ≤ n ∧ x.b.size ≤ n) : ∀ (bd : List Fct) (av : Bnd) (l : List Fct), (∀ p ∈ av, p.2.size ≤ n) → ∀ w ∈ ways bd L av l, ∀ p ∈ w.1, p.2.size ≤ n
  | [], av, l, ha, w, hw, p, hp => by simp [ways] at hw; subst hw; exact ha p hp
  | x :: bd, av, l, ha, w, hw, p, hp => by
    unfold ways at hw
    obtain ⟨f, hf, hw⟩ := List.mem_flatMap.1 hw
    split at hw
    · have hb1 : ∀ (bs : Bnd) (m v : ByteArray) (cs : Bnd), (∀ p ∈ bs, p.2.size ≤ n) → v.size ≤ n → bind1 bs m v = some cs → ∀ p ∈ cs, p.2.size ≤ n := by
        intro bs m v cs hbs hv e q hq
        unfold bind1 at e
        split at e
        · split at e
          · cases e; exact hbs q hq
          · cases e
        · cases e
          rcases List.mem_append.1 hq with hq | hq
          · exact hbs q hq
          · simp at hq; subst hq; exact hv
      cases hb : bindF av x f with
      | none => rw [hb] at hw; cases hw
      | some bs =>
        rw [hb] at hw
        refine ways_le hL bd bs _ (fun q hq => ?_) w hw p hp
        unfold bindF at hb
        cases h1 : bind1 av x.a f.a with
        | none => rw [h1] at hb; cases hb
        | some cs =>
          rw [h1] at hb
          exact hb1 cs _ _ bs (hb1 av _ _ cs ha (hL f hf).1 h1) (hL f hf).2 hb q hq
    · cases hw
theorem lkB_le {n : Nat} {av : Bnd} (ha : ∀ p ∈ av, p.2.size ≤ n) (k : ByteArray) : (strD (lkB av k)).size ≤ n := by
  induction av with
  | nil => exact Nat.zero_le _
  | cons p av ih =>
    simp only [lkB]
    split
    · exact ha p List.mem_cons_self
    · exact ih (fun q hq => ha q (List.mem_cons_of_mem _ hq))
theorem validR_hd {r : Rul} (h : validR r = true) : isName r.hd.n = true := by
  unfold validR validA at h
  simp only [Bool.and_eq_true] at h
  exact h.2.1.1
theorem validF_iff {x : Fct} : validF x = true ↔ isName x.n = true ∧ x.a.size ≤ 16 ∧ x.b.size ≤ 16 := by
  unfold validF
  simp [Bool.and_eq_true]
theorem head_valid {r : Rul} {L : List Fct} (hr : validR r = true) (hL : ∀ x ∈ L, validF x = true) {x : Fct} (hx : x ∈ heads r L) : validF x = true := by
  unfold heads at hx
  obtain ⟨w, hw, rfl⟩ := List.mem_map.1 hx
  have h16 : ∀ y ∈ L, y.a.size ≤ 16 ∧ y.b.size ≤ 16 := fun y hy => (validF_iff.1 (hL y hy)).2
  exact validF_iff.2 ⟨validR_hd hr, lkB_le (ways_le h16 r.bd [] [] (by simp) w hw) _, lkB_le (ways_le h16 r.bd [] [] (by simp) w hw) _⟩
theorem validP_mem {l : List Rul} (h : validP l = true) : ∀ r ∈ l, validR r = true := fun r hr => by
  unfold validP at h
  rw [Bool.and_eq_true] at h
  have h2 := h.2
  rw [Bool.not_eq_true', List.any_eq_false] at h2
  simpa using h2 r hr
theorem validG_mem {l : List Fct} (h : validG l = true) : ∀ r ∈ l, validF r = true := fun r hr => by
  unfold validG at h
  rw [Bool.and_eq_true] at h
  have h2 := h.2
  rw [Bool.not_eq_true', List.any_eq_false] at h2
  simpa using h2 r hr
theorem validG_of {l : List Fct} (hn : l.length ≤ 60) (h : ∀ x ∈ l, validF x = true) : validG l = true := by
  unfold validG
  rw [Bool.and_eq_true]
  refine ⟨decide_eq_true hn, ?_⟩
  rw [Bool.not_eq_true', List.any_eq_false]
  intro x hx
  simp [h x hx]
theorem heads_all {rules : List Rul} {L : List Fct} {r : Rul} (hr : r ∈ rules) {x : Fct} (hx : x ∈ heads r L) : x ∈ headsAll rules L := List.mem_flatMap.2 ⟨r, hr, hx⟩
theorem fin_valid {rules : List Rul} {l : List Fct} {M : Rnds} (hf : Fin' rules l M) (hP : validP rules = true) (hG : validG l = true) : ∀ x ∈ keysR M, validF x = true := fun x hx => by
  have := hf.least ((keysR M).filter fun y => validF y) (fun y hy => List.mem_filter.2 ⟨hf.ge y hy, validG_mem hG y hy⟩) (fun y hy => by
    refine List.mem_filter.2 ⟨hf.closed y (headsAll_mono (fun z hz => (srt_mem _ _).2 (List.mem_filter.1 hz).1) rules y hy), ?_⟩
    obtain ⟨r, hr, hy⟩ := List.mem_flatMap.1 hy
    exact head_valid (validP_mem hP r hr) (fun z hz => (List.mem_filter.1 hz).2) hy) x hx
  exact (List.mem_filter.1 this).2
/-- What a rule gives of all that follows, follows. -/
theorem fin_gives {rules : List Rul} {l : List Fct} {M : Rnds} (hf : Fin' rules l M) {r : Rul} (hr : r ∈ rules) : ∀ x ∈ srt (heads r (srt (srt (keysR M)))), x ∈ srt (keysR M) := fun x hx => by
  rw [srt_self (srt_asc _)] at hx
  exact (srt_mem _ _).2 (hf.closed x (heads_all hr ((srt_mem _ _).1 hx)))
theorem fin_gives_len {rules : List Rul} {l : List Fct} {M : Rnds} (hf : Fin' rules l M) {r : Rul} (hr : r ∈ rules) : (srt (heads r (srt (srt (keysR M))))).length ≤ (srt (keysR M)).length :=
  nodup_sub (srt_asc _).nodup (fin_gives hf hr)
theorem less_nil {a b : List Fct} (h : ∀ x ∈ a, x ∈ b) : lessF a b = [] := by
  unfold lessF
  rw [List.filter_eq_nil_iff]
  intro x hx
  simp [h x hx]
/-- All that the rules give of a list, rule by rule. -/
def givenAll (rules : List Rul) (L : List Fct) : List Fct := rules.flatMap fun r => srt (heads r (srt L))
theorem givenAll_take {rules : List Rul} {L : List Fct} {i : Nat} (hi : i < rules.length) : givenAll (rules.take (i + 1)) L = givenAll (rules.take i) L ++ srt (heads rules[i] (srt L)) := by
  rw [List.take_succ_eq_append_getElem hi]
  unfold givenAll
  rw [List.flatMap_append]
  simp
theorem fin_least {rules : List Rul} {l : List Fct} {M : Rnds} (hf : Fin' rules l M) : ∀ x ∈ srt (keysR M), x ∈ givenAll rules (srt (keysR M)) ++ l := fun x hx => by
  rcases hf.src x ((srt_mem _ _).1 hx) with h | h
  · exact List.mem_append.2 (.inr h)
  · refine List.mem_append.2 (.inl ?_)
    obtain ⟨r, hr, h⟩ := List.mem_flatMap.1 h
    exact List.mem_flatMap.2 ⟨r, hr, (srt_mem _ _).2 (by rw [srt_self (srt_asc _)]; exact h)⟩
theorem givenAll_len {rules : List Rul} {l : List Fct} {M : Rnds} (hf : Fin' rules l M) {i : Nat} (hi : i ≤ rules.length) (h60 : (srt (keysR M)).length ≤ 60) : (givenAll (rules.take i) (srt (keysR M))).length ≤ 60 * i := by
  have := flatMap_len_le (fun r => srt (heads r (srt (srt (keysR M))))) 60 (rules.take i) (fun r hr => Nat.le_trans (fin_gives_len hf (List.mem_of_mem_take hr)) h60)
  unfold givenAll
  rw [List.length_take, Nat.min_eq_left hi] at this
  omega
end Go.Proofs.Ytafeaeaildfohaa
/- The reference's ValidRule, program, facts. -/
namespace Go.Proofs.Ytafeaeaildfohaa
open Go.RowKit Go.Maps

theorem any_take {α : Type} {p : α → Bool} {l : List α} {k : Nat} (h : k < l.length) : (l.take (k + 1)).any p = ((l.take k).any p || p l[k]) := by
  rw [List.take_succ_eq_append_getElem h, List.any_append]; simp
theorem any_false_of {α : Type} {p : α → Bool} {l : List α} {k : Nat} (h : k < l.length) (e : p l[k] = true) : l.any p = true := List.any_eq_true.2 ⟨_, List.getElem_mem h, e⟩
theorem hasP (x : Fct) (k : ByteArray) : decide (x.a = k ∨ x.b = k) = ((x.a.toList == k.toList) || (x.b.toList == k.toList)) := by rw [strEqB, strEqB, Bool.decide_or]
set_option maxRecDepth 100000 in
set_option maxHeartbeats 8000000 in
theorem refRule_any (r : Rul) (v : Value) (w : World) (hok : okF r.hd) (hv : tFcts.rv (mem w) [v] r.bd) :
    Calls Try.prog 10 #[r.v v] w fun e w' => e = .returned (.bool (validR r)) ∧ Below w.heap.size w w' := by
  obtain ⟨⟨n, a, b⟩, bd⟩ := r
  have HB0 := Lib.hid (boxB w)
  have HV := Lib.hid (show validR ⟨⟨n, a, b⟩, bd⟩ = (decide (1 ≤ bd.length ∧ bd.length ≤ 3) && (validA ⟨n, a, b⟩ && (!(bd.any fun a => !validA a) && (hasV bd a && hasV bd b)))) from rfl)
  have HA := Lib.hid (fun w => refAtom_any ⟨n, a, b⟩ w hok)
  have HD := Lib.hid (fun (w' : World) (hb : Below w.heap.size w w') => tFcts.mono _ _ _ _ (below_mem hb) hv)
  obtain ⟨av, cv, rfl, hl1, hl2, -⟩ := slice_form hv
  have hcv : cv ≤ 9223372036854775807 := by unfold maxLen at hl2; exact hl2
  have hcell := mem_cells (heap_alloc_new w (.cells #[.string n, .string a, .string b, .slice av bd.length cv] 31))
  have HCL := Lib.hid hcell
  generalize validR ⟨⟨n, a, b⟩, bd⟩ = r at *
  generalize validA ⟨n, a, b⟩ = b1 at *
  clear hv hcell hl2 hok
  by_cases h0 : bd.length = 0
  · have HR := Lib.hid (show r = false by rw [HV.out, decide_eq_false (by omega)]; rfl)
    clear HV HA HD HCL
    generalize bd.length = m at *
    subst h0
    go_enter Try.func10, Try.ntmps10
    go_wp2
    go_ret
    exact ⟨by rw [HR.out] <;> rfl, HB0.out _⟩
  by_cases h3 : 3 < bd.length
  · have HR := Lib.hid (show r = false by rw [HV.out, decide_eq_false (by omega)]; rfl)
    clear HV HA HD HCL
    generalize bd.length = m at *
    go_enter Try.func10, Try.ntmps10
    go_wp2
    go_ret
    exact ⟨by rw [HR.out] <;> rfl, HB0.out _⟩
  have HV2 := Lib.hid (show r = (b1 && (!(bd.any fun a => !validA a) && (hasV bd a && hasV bd b))) by rw [HV.out, decide_eq_true (by omega)]; rfl)
  clear HV
  have e0 : ¬ ((bd.length : Int) < 1) := by omega
  have e3 : ¬ (3 < (bd.length : Int)) := by omega
  go_enter Try.func10, Try.ntmps10
  go_wp2_with fail
  refine (HA.out _).mono ?_
  rintro e w1 ⟨rfl, hb1⟩
  have HB1 := Lib.hid (pure_trans (HB0.out _) hb1)
  have HC1 := Lib.hid (show ∀ (w' : World), Below w1.heap.size w1 w' → w'.cell? ⟨w.heap.size, 1, none⟩ = some (.string a) ∧ w'.cell? ⟨w.heap.size, 2, none⟩ = some (.string b) ∧ w'.cell? ⟨w.heap.size, 3, none⟩ = some (.slice av bd.length cv) from fun w' hb =>
    ⟨below_mem hb _ _ _ (below_mem hb1 _ _ _ ((HCL.out 1).trans rfl)), below_mem hb _ _ _ (below_mem hb1 _ _ _ ((HCL.out 2).trans rfl)), below_mem hb _ _ _ (below_mem hb1 _ _ _ ((HCL.out 3).trans rfl))⟩)
  have HD1 := Lib.hid (fun (w' : World) (hb : Below w1.heap.size w1 w') => HD.out w' (pure_trans HB1.out hb))
  clear hb1 HA HCL HD HB0
  cases b1 with
  | false =>
    have HR := Lib.hid (show r = false by rw [HV2.out]; rfl)
    clear HV2 HC1 HD1
    go_wp2
    go_ret
    exact ⟨by rw [HR.out] <;> rfl, HB1.out⟩
  | true =>
  have HV3 := Lib.hid (show r = (!(bd.any fun a => !validA a) && (hasV bd a && hasV bd b)) by rw [HV2.out]; rfl)
  clear HV2
  go_wp2_with fail
  go_loopw [3, 4, 5] (fun t1 t2 i wr => ∃ k : Nat, k ≤ bd.length ∧ i = .int .i64 k ∧ t1 = .bool (hasV (bd.take k) a) ∧ t2 = .bool (hasV (bd.take k) b) ∧ Hid ((bd.take k).any (fun a => !validA a) = false) ∧ Hid (Below w1.heap.size w1 wr)) (fun _ _ i _ => bd.length - (intOf i).toNat)
  case atStart => exact ⟨0, by omega, rfl, rfl, rfl, Lib.hid rfl, Lib.hid (Below.refl _ _)⟩
  case round =>
    obtain ⟨k, hk, rfl, rfl, rfl, HN, HB⟩ := hrel
    obtain ⟨d1, d2, d3⟩ := HC1.out _ HB.out
    by_cases hlt : k < bd.length
    · obtain ⟨bb, o, rfl, ⟨q0, q1, q2⟩, hok⟩ := fcts_at (HD1.out _ HB.out) hlt
      have c0 : wr.cell? ⟨bb, o + k * 3, none⟩ = some (.string bd[k].n) := q0
      have c1 : wr.cell? ⟨bb, o + k * 3 + 1, none⟩ = some (.string bd[k].a) := q1
      have c2 : wr.cell? ⟨bb, o + k * 3 + 2, none⟩ = some (.string bd[k].b) := q2
      have HBAD := Lib.hid (show validA bd[k] = false → r = false from fun e => by rw [HV3.out, any_false_of (p := fun a => !validA a) hlt (by simp [e])]; rfl)
      have HNX := Lib.hid (show validA bd[k] = true → (bd.take (k + 1)).any (fun a => !validA a) = false from fun e => by rw [any_take hlt, HN.out]; simp [e])
      have HHA := Lib.hid (show hasV (bd.take (k + 1)) a = (hasV (bd.take k) a || decide (bd[k].a = a ∨ bd[k].b = a)) from any_take hlt)
      have HHB := Lib.hid (show hasV (bd.take (k + 1)) b = (hasV (bd.take k) b || decide (bd[k].a = b ∨ bd[k].b = b)) from any_take hlt)
      have HAT := Lib.hid (fun w => refAtom_any bd[k] w hok)
      clear q0 q1 q2 hok HN
      generalize hasV (bd.take k) a = u1 at *
      generalize hasV (bd.take k) b = u2 at *
      generalize bd[k] = x at *
      rw [hasP] at HHA HHB
      obtain ⟨x1, x2, x3⟩ := x
      simp only at c0 c1 c2 HHA HHB
      have hbx : Below w1.heap.size w1 (wr.alloc (.cells #[.string x1, .string x2, .string x3] 28)) := HB.out.alloc HB.out.size _
      obtain ⟨d1', d2', d3'⟩ := HC1.out _ hbx
      have hxn := heap_alloc_new wr (.cells #[.string x1, .string x2, .string x3] 28)
      have HXN := Lib.hid hxn
      have HBX := Lib.hid hbx
      clear hxn hbx
      go_wp2_with fail
      refine (HAT.out _).mono ?_
      rintro e w3 ⟨rfl, hb3⟩
      have HB3 := Lib.hid (HBX.out.trans (hb3.mono HBX.out.size))
      obtain ⟨s1, s2, s3⟩ := HC1.out _ HB3.out
      have g1 : w3.cell? ⟨wr.heap.size, 1, none⟩ = some (.string x2) := below_mem hb3 _ _ _ (mem_cells HXN.out 1)
      have g2 : w3.cell? ⟨wr.heap.size, 2, none⟩ = some (.string x3) := below_mem hb3 _ _ _ (mem_cells HXN.out 2)
      clear hb3 HAT d1 d2 d3 d1' d2' d3' c0 c1 c2 HXN HBX
      cases hva : validA ⟨x1, x2, x3⟩ with
      | false =>
        have HR := Lib.hid (HBAD.out hva)
        have HBE := Lib.hid (pure_trans HB1.out HB3.out)
        clear HBAD HNX HHA HHB
        go_wp2
        go_ret
        exact ⟨by rw [HR.out] <;> rfl, HBE.out⟩
      | true =>
        have HN2 := Lib.hid (HNX.out hva)
        clear HBAD HNX hva
        cases h1 : (x2.toList == a.toList) <;> cases h2 : (x3.toList == a.toList) <;> cases h4 : (x2.toList == b.toList) <;> cases h5 : (x3.toList == b.toList) <;> cases u1 <;> cases u2
        all_goals
          rw [h1, h2] at HHA
          rw [h4, h5] at HHB
          have HQA := Lib.hid HHA.out
          have HQB := Lib.hid HHB.out
          clear HHA HHB
          go_wp2
          exact ⟨⟨k + 1, by omega, by go_num, by rw [HQA.out]; rfl, by rw [HQB.out]; rfl, HN2, HB3⟩, by simp [intOf]; omega⟩
    · obtain rfl : k = bd.length := by omega
      have HR := Lib.hid (show r = (hasV (bd.take bd.length) a && hasV (bd.take bd.length) b) from by
        have := HN.out
        rw [List.take_length] at this ⊢
        rw [HV3.out, this]; rfl)
      have HBE := Lib.hid (pure_trans HB1.out HB.out)
      clear HN HV3 hk
      generalize hasV (bd.take bd.length) a = u1 at *
      generalize hasV (bd.take bd.length) b = u2 at *
      cases u1 <;> cases u2
      all_goals
        go_wp2
        go_ret
        exact ⟨by rw [HR.out] <;> rfl, HBE.out⟩
end Go.Proofs.Ytafeaeaildfohaa
/- The reference's program, facts; Compare. -/
namespace Go.Proofs.Ytafeaeaildfohaa
open Go.RowKit Go.Maps

theorem validP_bad {l : List Rul} {k : Nat} (h : k < l.length) (e : validR l[k] = false) : validP l = false := by
  unfold validP
  rw [any_false_of (p := fun r => !validR r) h (by simp [e])]
  simp
theorem validP_end {l : List Rul} (h : l.any (fun r => !validR r) = false) : validP l = decide ((l.length : Int) ≤ 12) := by
  unfold validP
  rw [h]
  simp only [Bool.not_false, Bool.and_true]
  exact decide_eq_decide.2 (by omega)
theorem validG_bad {l : List Fct} {k : Nat} (h : k < l.length) (e : validF l[k] = false) : validG l = false := by
  unfold validG
  rw [any_false_of (p := fun r => !validF r) h (by simp [e])]
  simp
theorem validG_end {l : List Fct} (h : l.any (fun r => !validF r) = false) : validG l = decide ((l.length : Int) ≤ 60) := by
  unfold validG
  rw [h]
  simp only [Bool.not_false, Bool.and_true]
  exact decide_eq_decide.2 (by omega)
set_option maxRecDepth 100000 in
set_option maxHeartbeats 4000000 in
theorem refProgram_any (l : List Rul) (v : Value) (w : World) (hv : tRuls.rv (mem w) [v] l) :
    Calls Try.prog 40 #[v] w fun e w' => e = .returned (.bool (validP l)) ∧ Below w.heap.size w w' := by
  obtain ⟨a, cap, rfl, hlc, hm, hv⟩ := slice_form hv
  have hcap : cap ≤ 9223372036854775807 := by unfold maxLen at hm; exact hm
  have HV := Lib.hid (fun wr (hb : Below w.heap.size w wr) => tRuls.mono _ _ _ _ (below_mem hb) hv)
  clear hm hv
  go_enter Try.func40, Try.ntmps40
  go_wp2
  go_loopw [3] (fun i wr => ∃ k : Nat, k ≤ l.length ∧ i = .int .i64 k ∧ Hid ((l.take k).any (fun r => !validR r) = false) ∧ Hid (Below w.heap.size w wr)) (fun i _ => l.length - (intOf i).toNat)
  case atStart => exact ⟨0, by omega, rfl, Lib.hid rfl, Lib.hid (Below.refl _ _)⟩
  case round =>
    obtain ⟨k, hk, rfl, HN, HB⟩ := hrel
    by_cases hlt : k < l.length
    · obtain ⟨b, o, bv, rfl, ⟨q0, q1, q2, q3⟩, hok, hbd⟩ := ruls_at (HV.out _ HB.out) hlt
      have c0 : wr.cell? ⟨b, o + k * 4, none⟩ = some (.string l[k].hd.n) := q0
      have c1 : wr.cell? ⟨b, o + k * 4 + 1, none⟩ = some (.string l[k].hd.a) := q1
      have c2 : wr.cell? ⟨b, o + k * 4 + 2, none⟩ = some (.string l[k].hd.b) := q2
      have c3 : wr.cell? ⟨b, o + k * 4 + 3, none⟩ = some bv := q3
      have HCALL := Lib.hid (refRule_any l[k] bv wr hok hbd)
      have HBAD := Lib.hid (fun e => validP_bad hlt e)
      have HNX := Lib.hid (show validR l[k] = true → (l.take (k + 1)).any (fun r => !validR r) = false from fun e => by rw [any_take hlt, HN.out]; simp [e])
      obtain ⟨ab, cb, rfl, -, -, -⟩ := slice_form hbd
      clear q0 q1 q2 q3 hok hbd HN
      generalize l[k] = r at *
      obtain ⟨⟨r1, r2, r3⟩, bd⟩ := r
      simp only at c0 c1 c2 c3
      go_wp2_with fail
      refine HCALL.out.mono ?_
      rintro e w3 ⟨rfl, hb3⟩
      have HB3 := Lib.hid (pure_trans HB.out hb3)
      clear hb3 HCALL
      cases hva : validR ⟨⟨r1, r2, r3⟩, bd⟩ with
      | false =>
        have HR := Lib.hid (HBAD.out hva)
        go_wp2
        go_ret
        exact ⟨by rw [HR.out] <;> rfl, HB3.out⟩
      | true =>
        have HN2 := Lib.hid (HNX.out hva)
        clear HNX HBAD
        go_wp2
        go_roundw
        case rel => exact ⟨k + 1, by omega, by go_num, HN2, HB3⟩
        case measure => simp [intOf]; omega
    · obtain rfl : k = l.length := by omega
      have HR := Lib.hid (validP_end (by have := HN.out; rwa [List.take_length] at this))
      go_wp2
      go_ret
      exact ⟨by rw [HR.out] <;> rfl, HB.out⟩
set_option maxRecDepth 100000 in
set_option maxHeartbeats 4000000 in
theorem refFacts_any (l : List Fct) (v : Value) (w : World) (hv : tFcts.rv (mem w) [v] l) :
    Calls Try.prog 41 #[v] w fun e w' => e = .returned (.bool (validG l)) ∧ Below w.heap.size w w' := by
  obtain ⟨a, cap, rfl, hlc, hm, hv⟩ := slice_form hv
  have hcap : cap ≤ 9223372036854775807 := by unfold maxLen at hm; exact hm
  have HV := Lib.hid (fun wr (hb : Below w.heap.size w wr) => tFcts.mono _ _ _ _ (below_mem hb) hv)
  clear hm hv
  go_enter Try.func41, Try.ntmps41
  go_wp2
  go_loopw [3] (fun i wr => ∃ k : Nat, k ≤ l.length ∧ i = .int .i64 k ∧ Hid ((l.take k).any (fun r => !validF r) = false) ∧ Hid (Below w.heap.size w wr)) (fun i _ => l.length - (intOf i).toNat)
  case atStart => exact ⟨0, by omega, rfl, Lib.hid rfl, Lib.hid (Below.refl _ _)⟩
  case round =>
    obtain ⟨k, hk, rfl, HN, HB⟩ := hrel
    by_cases hlt : k < l.length
    · obtain ⟨b, o, rfl, ⟨q0, q1, q2⟩, hok⟩ := fcts_at (HV.out _ HB.out) hlt
      have c0 : wr.cell? ⟨b, o + k * 3, none⟩ = some (.string l[k].n) := q0
      have c1 : wr.cell? ⟨b, o + k * 3 + 1, none⟩ = some (.string l[k].a) := q1
      have c2 : wr.cell? ⟨b, o + k * 3 + 2, none⟩ = some (.string l[k].b) := q2
      have HCALL := Lib.hid (refFact_any l[k] wr hok)
      have HBAD := Lib.hid (fun e => validG_bad hlt e)
      have HNX := Lib.hid (show validF l[k] = true → (l.take (k + 1)).any (fun r => !validF r) = false from fun e => by rw [any_take hlt, HN.out]; simp [e])
      clear q0 q1 q2 hok HN
      generalize l[k] = r at *
      obtain ⟨r1, r2, r3⟩ := r
      simp only at c0 c1 c2
      go_wp2_with fail
      refine HCALL.out.mono ?_
      rintro e w3 ⟨rfl, hb3⟩
      have HB3 := Lib.hid (pure_trans HB.out hb3)
      clear hb3 HCALL
      cases hva : validF ⟨r1, r2, r3⟩ with
      | false =>
        have HR := Lib.hid (HBAD.out hva)
        go_wp2
        go_ret
        exact ⟨by rw [HR.out] <;> rfl, HB3.out⟩
      | true =>
        have HN2 := Lib.hid (HNX.out hva)
        clear HNX HBAD
        go_wp2
        go_roundw
        case rel => exact ⟨k + 1, by omega, by go_num, HN2, HB3⟩
        case measure => simp [intOf]; omega
    · obtain rfl : k = l.length := by omega
      have HR := Lib.hid (validG_end (by have := HN.out; rwa [List.take_length] at this))
      go_wp2
      go_ret
      exact ⟨by rw [HR.out] <;> rfl, HB.out⟩
end Go.Proofs.Ytafeaeaildfohaa
/- The reference's Compare. -/
namespace Go.Proofs.Ytafeaeaildfohaa
open Go.RowKit Go.Maps

def partF (x : Fct) : Nat → ByteArray
  | 0 => x.n
  | 1 => x.a
  | _ => x.b
def cK (x y : Fct) (j : Nat) : Int := cmpBytes (partF x j).toList (partF y j).toList
theorem fctC_eq3 (x y : Fct) : fctC x y = if cK x y 0 ≠ 0 then cK x y 0 else if cK x y 1 ≠ 0 then cK x y 1 else cK x y 2 := rfl
theorem fctC_first {x y : Fct} {j : Nat} (hj : j < 3) (h : ∀ i, i < j → cK x y i = 0) (h2 : cK x y j ≠ 0) : fctC x y = cK x y j := by
  rw [fctC_eq3]
  match j, hj with
  | 0, _ => rw [if_pos h2]
  | 1, _ => rw [if_neg (not_not_intro (h 0 (by omega))), if_pos h2]
  | 2, _ => rw [if_neg (not_not_intro (h 0 (by omega))), if_neg (not_not_intro (h 1 (by omega)))]
theorem fctC_none {x y : Fct} (h : ∀ i, i < 3 → cK x y i = 0) : fctC x y = 0 := by
  rw [fctC_eq3, if_neg (not_not_intro (h 0 (by omega))), if_neg (not_not_intro (h 1 (by omega)))]
  exact h 2 (by omega)
theorem four_alloc {w X : World} {c1 c2 c3 c4 : Array Value} {t1 t2 t3 t4 : TypeId} (hX : X = (((w.alloc (.cells c1 t1)).alloc (.cells c2 t2)).alloc (.cells c3 t3)).alloc (.cells c4 t4)) :
    Below w.heap.size w X ∧ X.heap[w.heap.size + 2]? = some (.cells c3 t3 (0, 0)) ∧ X.heap[w.heap.size + 3]? = some (.cells c4 t4 (0, 0)) := by
  obtain ⟨h1, h2, -, -, h3⟩ := three_alloc (w := w) (X := ((w.alloc (.cells c1 t1)).alloc (.cells c2 t2)).alloc (.cells c3 t3)) rfl
  subst hX
  refine ⟨h1.alloc h1.size _, (Below.heap_alloc _ _ _ (by omega)).trans h3, ?_⟩
  have := heap_alloc_new (((w.alloc (.cells c1 t1)).alloc (.cells c2 t2)).alloc (.cells c3 t3)) (.cells c4 t4)
  rwa [h2] at this
set_option maxRecDepth 100000 in
set_option maxHeartbeats 4000000 in
theorem refCompare_any (x y : Fct) (w : World) :
    Calls Try.prog 71 #[x.v, y.v] w fun e w' => e = .returned (.int .i64 (fctC x y)) ∧ Below w.heap.size w w' := by
  have HF := Lib.hid (fun j (hj : j < 3) h h2 => fctC_first (x := x) (y := y) hj h h2)
  have HN := Lib.hid (fun h => fctC_none (x := x) (y := y) h)
  obtain ⟨X, hX⟩ : ∃ X, X = (((w.alloc (.cells #[.string x.n, .string x.a, .string x.b] 33)).alloc (.cells #[.string y.n, .string y.a, .string y.b] 33)).alloc (.cells #[.string x.n, .string x.a, .string x.b] 9)).alloc (.cells #[.string y.n, .string y.a, .string y.b] 9) := ⟨_, rfl⟩
  obtain ⟨hb, hx, hy⟩ := four_alloc hX
  have HX := Lib.hid hX
  have HB := Lib.hid hb
  have HCX := Lib.hid (show ∀ (w' : World) (_ : Below X.heap.size X w') (j : Nat), j < 3 → w'.cell? ⟨w.heap.size + 2, j, none⟩ = some (.string (partF x j)) ∧ w'.cell? ⟨w.heap.size + 3, j, none⟩ = some (.string (partF y j)) from fun w' hb j hj => by
    refine ⟨below_mem hb _ _ _ ((mem_cells hx j).trans ?_), below_mem hb _ _ _ ((mem_cells hy j).trans ?_)⟩
    · match j, hj with | 0, _ => rfl | 1, _ => rfl | 2, _ => rfl
    · match j, hj with | 0, _ => rfl | 1, _ => rfl | 2, _ => rfl)
  have HRG := Lib.hid (fun j => cmpBytes_good.range (partF x j).toList (partF y j).toList)
  have HCK := Lib.hid (fun j => (show cK x y j = cmpBytes (partF x j).toList (partF y j).toList from rfl))
  generalize fctC x y = r at *
  generalize cK x y = c at *
  generalize partF x = px at *
  generalize partF y = py at *
  obtain ⟨x1, x2, x3⟩ := x
  obtain ⟨y1, y2, y3⟩ := y
  simp only at HX
  clear hX hb hx hy
  go_enter Try.func71, Try.ntmps71
  go_wp2
  rw [← HX.out]
  go_loopw [7] (fun i wr => ∃ k : Nat, k ≤ 3 ∧ i = .int .i64 k ∧ Hid (∀ i, i < k → c i = 0) ∧ Hid (Below X.heap.size X wr)) (fun i _ => 3 - (intOf i).toNat)
  case atStart => exact ⟨0, by omega, rfl, Lib.hid (fun i hi => absurd hi (by omega)), Lib.hid (Below.refl _ _)⟩
  case round =>
    obtain ⟨k, hk, rfl, HZ, HBR⟩ := hrel
    by_cases hlt : k < 3
    · obtain ⟨hc1, hc2⟩ := HCX.out wr HBR.out k hlt
      have hd1 : ∀ q, (wr.drewN q).cell? ⟨w.heap.size + 2, k, none⟩ = some (.string (px k)) := fun q => hc1
      have hd2 : ∀ q, (wr.drewN q).cell? ⟨w.heap.size + 3, k, none⟩ = some (.string (py k)) := fun q => hc2
      have HD := Lib.hid (show ∀ m, Below w.heap.size w (wr.drewN m) from fun m => (HB.out.trans (HBR.out.mono HB.out.size)).trans ⟨rfl, rfl, rfl, Nat.le_refl _, fun _ _ => rfl⟩)
      have HD2 := Lib.hid (show ∀ m n, Below X.heap.size X ((wr.drewN m).drewN n) from fun m n => HBR.out.trans ⟨rfl, rfl, rfl, Nat.le_refl _, fun _ _ => rfl⟩)
      have HD3 := Lib.hid (show ∀ m n, Below w.heap.size w ((wr.drewN m).drewN n) from fun m n => (HB.out.trans (HBR.out.mono HB.out.size)).trans ⟨rfl, rfl, rfl, Nat.le_refl _, fun _ _ => rfl⟩)
      have HR := HRG.out k
      have HL := Lib.hid (bytesLess_cmp (px k).toList (py k).toList)
      have HE := Lib.hid (bytesEq_cmp (px k).toList (py k).toList)
      rw [← HCK.out k] at HR HL HE
      have HFK := Lib.hid (HF.out k hlt HZ.out)
      rcases Int.lt_trichotomy (c k) 0 with hlt0 | h0 | hgt0
      · have h1 : Op.bytesLess (px k).toList (py k).toList = true := by rw [HL.out]; exact decide_eq_true hlt0
        have HRR := Lib.hid (show r = -1 by rw [HFK.out (by omega)]; omega)
        clear HL HE
        go_wp2_with fail
        go_quiet (fail)
        go_wp2
        go_ret
        exact ⟨by rw [HRR.out]; rfl, HD.out _⟩
      · have h1 : Op.bytesLess (px k).toList (py k).toList = false := by rw [HL.out]; exact decide_eq_false (by omega)
        have h2 : ((px k).toList == (py k).toList) = true := by rw [HE.out]; exact decide_eq_true h0
        have HZ2 := Lib.hid (show ∀ i, i < k + 1 → c i = 0 from fun i hi => (Nat.lt_or_eq_of_le (Nat.le_of_lt_succ hi)).elim (HZ.out i) (fun e => e ▸ h0))
        clear HL HE
        go_wp2_with fail
        go_quiet (fail)
        go_wp2_with fail
        go_quiet (fail)
        go_wp2
        exact ⟨⟨k + 1, by omega, by go_num, HZ2, Lib.hid (by first | exact HD2.out _ _ | exact HD2.out _ 0)⟩, by simp [intOf]; omega⟩
      · have h1 : Op.bytesLess (px k).toList (py k).toList = false := by rw [HL.out]; exact decide_eq_false (by omega)
        have h2 : ((px k).toList == (py k).toList) = false := by rw [HE.out]; exact decide_eq_false (by omega)
        have HRR := Lib.hid (show r = 1 by rw [HFK.out (by omega)]; omega)
        clear HL HE
        go_wp2_with fail
        go_quiet (fail)
        go_wp2_with fail
        go_quiet (fail)
        go_wp2
        go_ret
        exact ⟨by rw [HRR.out]; rfl, HD3.out _ _⟩
    · obtain rfl : k = 3 := by omega
      have HRR := Lib.hid (HN.out HZ.out)
      have HBE := Lib.hid (HB.out.trans (HBR.out.mono HB.out.size))
      go_wp2
      go_ret
      exact ⟨by rw [HRR.out]; rfl, HBE.out⟩
end Go.Proofs.Ytafeaeaildfohaa
/- Where a fact is put into an ascending list: plain. -/
namespace Go.Proofs.Ytafeaeaildfohaa

theorem putS_split {l : List Fct} {f : Fct} (ha : Asc l) (hf : f ∉ l) {k : Nat} (hk : k ≤ l.length) (h1 : ∀ i, (h : i < l.length) → k ≤ i → 0 < fctC l[i] f) (h2 : 0 < k → ∀ h : k - 1 < l.length, fctC l[k - 1] f ≤ 0) : putS l f = l.take k ++ f :: l.drop k := by
  unfold putS
  rw [if_neg hf]
  refine (insS_asc ha hf).unique ?_ (fun x => ?_)
  · have hp := List.pairwise_iff_getElem.1 ha
    have hlow : ∀ x ∈ l.take k, fctC x f < 0 := fun x hx => by
      obtain ⟨i, hi, rfl⟩ := List.getElem_of_mem hx
      rw [List.length_take] at hi
      rw [List.getElem_take]
      have hi2 : i < l.length := by omega
      have h3 := h2 (by omega) (by omega)
      have hne : fctC l[i] f ≠ 0 := fun e => hf (fctC_eq e ▸ List.getElem_mem hi2)
      by_cases e : i = k - 1
      · subst e; omega
      · have h4 := hp i (k - 1) hi2 (by omega) (by omega)
        have h5 := fctC_good.trans l[i] l[k - 1] f (by omega) h3
        omega
    have hhigh : ∀ x ∈ l.drop k, fctC f x < 0 := fun x hx => by
      obtain ⟨i, hi, rfl⟩ := List.getElem_of_mem hx
      rw [List.length_drop] at hi
      rw [List.getElem_drop]
      have := h1 (k + i) (by omega) (by omega)
      have h5 := fctC_good.anti l[k + i] f
      omega
    refine List.pairwise_append.2 ⟨ha.sublist (List.take_sublist _ _), List.pairwise_cons.2 ⟨hhigh, ha.sublist (List.drop_sublist _ _)⟩, fun x hx y hy => ?_⟩
    rcases List.mem_cons.1 hy with rfl | hy
    · exact hlow x hx
    · have h3 := hlow x hx
      have h4 := hhigh y hy
      have h5 := fctC_good.trans x f y (by omega) (by omega)
      have hne : fctC x y ≠ 0 := fun e => by
        have := fctC_eq e
        subst this
        have h6 := fctC_good.anti x f
        omega
      omega
  · rw [insS_mem]
    constructor
    · rintro (rfl | h)
      · simp
      · rw [← List.take_append_drop k l] at h
        rcases List.mem_append.1 h with h | h
        · exact List.mem_append.2 (.inl h)
        · exact List.mem_append.2 (.inr (List.mem_cons_of_mem _ h))
    · intro h
      rcases List.mem_append.1 h with h | h
      · exact .inr (List.mem_of_mem_take h)
      · rcases List.mem_cons.1 h with h | h
        · exact .inl h
        · exact .inr (List.mem_of_mem_drop h)
end Go.Proofs.Ytafeaeaildfohaa
