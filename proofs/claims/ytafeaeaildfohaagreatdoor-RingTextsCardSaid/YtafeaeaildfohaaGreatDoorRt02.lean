/- Part 2 of the texts that the law's proof stands on, merged. -/
import Derived.Laws.OwnMore
import Derived.ArgAppend
import Derived.Laws.EntriesVeiled
import Derived.Test.YtafeaeaildfohaaGreatDoorRt01
set_option linter.unusedVariables false
set_option linter.unusedSimpArgs false
/- Append of a whole slice to a row of the call's own, in readings that ask nothing of memory (XApp). -/
namespace Go.Proofs.YtafeaeaildfohaaGreatDoor
open Go.RowKit

theorem flatten_split {β : Type} {s : Nat} (hs : 0 < s) : ∀ (css : List (List β)), (∀ c ∈ css, c.length = s) → ∀ (j : Nat) (v : β), css.flatten[j]? = some v → ∃ k, ∃ h : k < css.length, ∃ r, j = k * s + r ∧ css[k][r]? = some v
  | [], _, j, v, h => by simp at h
  | c :: css, hl, j, v, h => by
    have hc : c.length = s := hl c List.mem_cons_self
    rw [List.flatten_cons] at h
    by_cases hj : j < c.length
    · rw [List.getElem?_append_left hj] at h
      exact ⟨0, by simp, j, by omega, by simpa using h⟩
    · rw [List.getElem?_append_right (by omega)] at h
      obtain ⟨k, hk, r, e, hv⟩ := flatten_split hs css (fun x hx => hl x (List.mem_cons_of_mem _ hx)) _ _ h
      exact ⟨k + 1, by simp; omega, r, by rw [Nat.add_mul]; omega, by simpa using hv⟩

theorem flatten_len {β : Type} {s : Nat} : ∀ (css : List (List β)), (∀ c ∈ css, c.length = s) → css.flatten.length = css.length * s
  | [], _ => by simp
  | c :: css, hl => by
    rw [List.flatten_cons, List.length_append, flatten_len css (fun x hx => hl x (List.mem_cons_of_mem _ hx)), hl c List.mem_cons_self, List.length_cons, Nat.add_mul]
    omega

theorem slice_css {α : Type} {t : Ty α} {m : Mem} {b o : Nat} {n cap : Nat} {ys : List α} (h : (tSlice t).rv m [.slice (some ⟨b, o, none⟩) n cap] ys) :
    ∃ css : List (List Value), css.length = ys.length ∧ (∀ c ∈ css, c.length = t.sz) ∧ ∀ k, (h : k < css.length) → (h' : k < ys.length) → At m b (o + k * t.sz) css[k] ∧ t.rv m css[k] ys[k] := by
  have hk : ∀ k : Fin ys.length, ∃ cs, At m b (o + k.val * t.sz) cs ∧ t.rv m cs ys[k.val] := fun k => by
    obtain ⟨b', o', e, hat⟩ := slice_at h k.isLt
    injection e with e
    injection e with e1 e2
    subst e1; subst e2
    exact hat
  refine ⟨List.ofFn (fun k => Classical.choose (hk k)), by simp, fun c hc => ?_, fun k h1 h2 => ?_⟩
  · obtain ⟨k, rfl⟩ := List.mem_ofFn.1 hc
    exact t.len _ _ _ (Classical.choose_spec (hk k)).2
  · simp only [List.getElem_ofFn]
    exact Classical.choose_spec (hk ⟨k, h2⟩)

section
variable {P : Program}
theorem run_append_flat {α : Type} {t : Ty α} (hf : t.flat) (hone : ∀ m cs x, t.rv m cs x → ∀ u ∈ cs, u.oneCell' = true) (w : World) (T ty : TypeId) {e : TypeId} {z : Value} {bytes : Nat} (hT : P.underlying T = some (.slice e))
    (hinf : (P.info? e).map (fun i => (i.zero, i.size, i.bytes)) = some (some z, t.sz, bytes)) (hzs : z.cells.size = t.sz) (hsz : 0 < t.sz) (B : Nat) (v : Value) (xs ys : List α) (hown : Owns t w B e v xs)
    (a : Option Addr) (c : Nat) (hy : (tSlice t).rv (mem w) [.slice a ys.length c] ys) (h63 : xs.length + ys.length ≤ maxLen) (hbytes : (xs.length + ys.length) * bytes ≤ 140737488355328) (hbase : B ≤ w.heap.size) :
    ∃ v' w', (Builtin.append_ #[T, T] ty #[v, .slice a ys.length c]).run P w = .ok v' w' ∧ Owns t w' B e v' (xs ++ ys) ∧ w.grownBy w' v.ownBlock := by
  obtain ⟨i, hi, hz, hsize, hby⟩ := info_parts hinf
  obtain ⟨css, g1, g2, g4, g5⟩ := hown
  by_cases h0 : ys.length = 0
  · obtain rfl := List.length_eq_zero_iff.1 h0
    cases a with
    | none =>
      have hr : (Builtin.append_ #[T, T] ty #[v, .slice none 0 c]).run P w = .ok v w := by
        rcases g2.2 with ⟨rfl, _⟩ | ⟨g, cap, cur, rfl, _, _, hnc, _⟩
        · simp [Builtin.append_, run_underlying hT, sizeOf, typeInfo, hi, Builtin.lenOf, Builtin.firstCells]
        · simp [Builtin.append_, run_underlying hT, sizeOf, typeInfo, hi, Builtin.lenOf, Builtin.firstCells, hnc, storeCells]
      exact ⟨v, w, hr, by rw [List.append_nil]; exact ⟨css, g1, g2, g4, g5⟩, ⟨rfl, rfl, rfl, Nat.le_refl _, fun _ _ _ => rfl⟩⟩
    | some ad =>
      obtain ⟨v', w', hr, h2, h3, _⟩ := run_append_own (P := P) w B T ty e i z t.sz bytes hT hi hz hsize hby hzs hsz v xs.length css.flatten g2 ad 0 c [] (by simp) (fun j u hj => by simp at hj) (fun u hu => by simp at hu) (by simpa using h63) (by simpa using hbytes) hbase
      exact ⟨v', w', hr, ⟨css, by simp [g1], by simpa using h2, g4, fun k h h' => by
        have h'' : k < xs.length := by simpa using h'
        have := hf _ ((mem w').on (fun b => some b ≠ v'.ownBlock)) _ _ (g5 k h h'')
        simpa using this⟩, h3⟩
  · obtain ⟨b, o, rfl, _⟩ := slice_at hy (k := 0) (by omega)
    obtain ⟨dss, d1, d2, d3⟩ := slice_css hy
    have hl : dss.flatten.length = ys.length * t.sz := by rw [flatten_len dss d2, d1]
    obtain ⟨v', w', hr, h2, h3, _⟩ := run_append_own (P := P) w B T ty e i z t.sz bytes hT hi hz hsize hby hzs hsz v xs.length css.flatten g2 ⟨b, o, none⟩ ys.length c dss.flatten hl (fun j u hj => by
        obtain ⟨k, hk, r, rfl, hv⟩ := flatten_split hsz dss d2 j u hj
        have := (d3 k hk (by omega)).1 r u hv
        rw [Addr.add_lit, ← Nat.add_assoc]
        exact this) (fun u hu => by
        obtain ⟨l, hl, hu⟩ := List.mem_flatten.1 hu
        obtain ⟨k, hk, rfl⟩ := List.getElem_of_mem hl
        exact hone _ _ _ (d3 k hk (by omega)).2 u hu) h63 hbytes hbase
    refine ⟨v', w', hr, ⟨css ++ dss, by simp [g1, d1], by simpa using h2, fun cc hc => ?_, fun k h h' => ?_⟩, h3⟩
    · rcases List.mem_append.1 hc with hc | hc
      · exact g4 _ hc
      · exact d2 _ hc
    · by_cases hlt : k < xs.length
      · rw [List.getElem_append_left (by omega), List.getElem_append_left hlt]
        exact hf _ _ _ _ (g5 k (by omega) hlt)
      · rw [List.getElem_append_right (by omega), List.getElem_append_right (by omega)]
        have hk : k - xs.length < ys.length := by simp at h'; omega
        have := (d3 (k - xs.length) (by omega) hk).2
        simp only [g1]
        exact hf _ _ _ _ this

theorem wpList_append_flat {α : Type} {ops : Array Oper} {rest : List Oper} {o : Oper} {a : Act} {Q : Exit → Act → World → Prop} {w : World} (hgd : o.guard = none) (s x : Operand) (T : TypeId)
    (ho : o.op = .call { callee := .builtin .append, args := #[s, x], argTypes := #[T, T] }) {t : Ty α} (hf : t.flat) (hone : ∀ m cs x, t.rv m cs x → ∀ u ∈ cs, u.oneCell' = true) {e : TypeId} {z : Value} {bytes : Nat} (hT : P.underlying T = some (.slice e))
    (hinf : (P.info? e).map (fun i => (i.zero, i.size, i.bytes)) = some (some z, t.sz, bytes)) (hzs : z.cells.size = t.sz) (hsz : 0 < t.sz) (B : Nat) (v : Value) (xs ys : List α) (hs : a.eval s = v) (hown : Owns t w B e v xs)
    (ad : Option Addr) (n c : Nat) (hx : a.eval x = .slice ad n c) (hn : n = ys.length) (hy : (tSlice t).rv (mem w) [.slice ad n c] ys) (h63 : xs.length + ys.length ≤ maxLen) (hbytes : (xs.length + ys.length) * bytes ≤ 140737488355328) (hbase : B ≤ w.heap.size)
    (h : ∀ v' w', Owns t w' B e v' (xs ++ ys) → w.grownBy w' v.ownBlock → wpList P ops Q rest (a.put o.dst v') w') : wpList P ops Q (o :: rest) a w := by
  subst hn
  refine wpList_plain hgd fun K hK => ?_
  obtain ⟨v', w', hr, h2, h3⟩ := run_append_flat (P := P) hf hone w T o.type hT hinf hzs hsz B v xs ys hown ad c hy h63 hbytes hbase
  unfold Oper.wp execOp
  simp only [ho, resolve, invoke, builtin, Sem.run_bind, Sem.run_pure, Result.andThen_ok, List.map_toArray, List.map_cons, List.map_nil, hs, hx, hr]
  exact hK _ _ (h v' w' h2 h3)
end
end Go.Proofs.YtafeaeaildfohaaGreatDoor
/- An append to a slice without room (slices.Clip's): new memory. The states of a body's atom being bound. -/
namespace Go.Proofs.YtafeaeaildfohaaGreatDoor
open Go.RowKit Go.Maps

section
variable {P : Program}
theorem run_append_full {α : Type} {t : Ty α} (hf : t.flat) (w : World) (T ty : TypeId) {e : TypeId} {z : Value} {bytes : Nat} (hT : P.underlying T = some (.slice e))
    (hinf : (P.info? e).map (fun i => (i.zero, i.size, i.bytes)) = some (some z, t.sz, bytes)) (hzs : z.cells.size = t.sz) (hsz : 0 < t.sz) (ao : Option Addr) (xs : List α)
    (hv : (tSlice t).rv (mem w) [.slice ao xs.length xs.length] xs) (nb c : Nat) (y : α) (cs : List Value) (hat : At (mem w) nb 0 cs) (hrv : ∀ m, t.rv m cs y) (h1 : ∀ u ∈ cs, u.oneCell' = true)
    (h63 : xs.length + 1 ≤ maxLen) (hbytes : (xs.length + 1) * bytes ≤ 140737488355328) :
    ∃ v' w', (Builtin.append_ #[T, T] ty #[.slice ao xs.length xs.length, .slice (some ⟨nb, 0, none⟩) 1 c]).run P w = .ok v' w' ∧ Owns t w' w.heap.size e v' (xs ++ [y]) ∧ w.grownBy w' none := by
  obtain ⟨i, hi, hz, hsize, hby⟩ := info_parts hinf
  have hl : cs.length = 1 * t.sz := by rw [t.len _ _ _ (hrv (mem w)), Nat.one_mul]
  have hnews : ∀ j u, cs[j]? = some u → w.cell? ((⟨nb, 0, none⟩ : Addr).add j) = some u := fun j u hj => by rw [Addr.add_lit]; exact hat j u hj
  have key : ∃ css : List (List Value), css.length = xs.length ∧ (∀ c ∈ css, c.length = t.sz) ∧ (∀ k, (h : k < css.length) → (h' : k < xs.length) → ∀ m, t.rv m css[k] xs[k]) ∧
      ∃ v' w', (Builtin.append_ #[T, T] ty #[.slice ao xs.length xs.length, .slice (some ⟨nb, 0, none⟩) 1 c]).run P w = .ok v' w' ∧ w'.ownsRow w.heap.size e t.sz v' (xs.length + 1) (css.flatten ++ cs) ∧ w.grownBy w' none := by
    cases ao with
    | none =>
      have h0 : xs = [] := by
        cases xs with
        | nil => rfl
        | cons x xs => obtain ⟨b, o, e, _⟩ := slice_at hv (k := 0) (by simp); cases e
      subst h0
      obtain ⟨v', w', hrun, r1, r2, _⟩ := run_append_own (P := P) w w.heap.size T ty e i z t.sz bytes hT hi hz hsize hby hzs hsz (.slice none 0 0) 0 [] (World.ownsRow_nil w _ e t.sz) ⟨nb, 0, none⟩ 1 c cs hl hnews h1 h63 hbytes (Nat.le_refl _)
      exact ⟨[], rfl, fun c h => absurd h (by simp), fun k h => absurd h (by simp), v', w', hrun, r1, r2⟩
    | some ad =>
      obtain ⟨b, o, sp⟩ := ad
      by_cases hx : xs = []
      · subst hx
        obtain ⟨v', w', hrun, r1, r2⟩ := run_append_arg_grows (P := P) w T ty e i z t.sz bytes hT hi hz hsize hby hzs hsz ⟨b, o, sp⟩ 0 0 [] (by simp) (fun j u hj => by simp at hj) ⟨nb, 0, none⟩ 1 c cs hl hnews (by omega) h63 hbytes
        exact ⟨[], rfl, fun c h => absurd h (by simp), fun k h => absurd h (by simp), v', w', hrun, r1, r2⟩
      · have hpos : 0 < xs.length := List.length_pos_iff.2 hx
        have hsp : sp = none := by
          obtain ⟨b', o', e', _⟩ := slice_at hv hpos
          injection e' with e'
          injection e'
        subst hsp
        obtain ⟨css, g1, g2, g3⟩ := slice_css hv
        obtain ⟨v', w', hrun, r1, r2⟩ := run_append_arg_grows (P := P) w T ty e i z t.sz bytes hT hi hz hsize hby hzs hsz ⟨b, o, none⟩ xs.length xs.length css.flatten (by rw [flatten_len css g2, g1]) (fun j u hj => by
          obtain ⟨k, hk, r, e, hv'⟩ := flatten_split hsz css g2 j u hj
          rw [Addr.add_lit]
          have := (g3 k hk (by omega)).1 r u hv'
          rw [e, ← Nat.add_assoc]; exact this) ⟨nb, 0, none⟩ 1 c cs hl hnews (by omega) h63 hbytes
        exact ⟨css, g1, g2, fun k h h' m => hf _ _ _ _ (g3 k h h').2, v', w', hrun, r1, r2⟩
  obtain ⟨css, g1, g2, g3, v', w', hrun, r1, r2⟩ := key
  refine ⟨v', w', hrun, ⟨css ++ [cs], by simp [g1], by simpa using r1, fun c hc => ?_, fun k h h' => ?_⟩, r2⟩
  · rcases List.mem_append.1 hc with hc | hc
    · exact g2 c hc
    · simp at hc; subst hc; rw [hl, Nat.one_mul]
  · by_cases hk : k < css.length
    · rw [List.getElem_append_left hk, List.getElem_append_left (by omega)]
      exact g3 k hk (by omega) _
    · have hk2 : k = css.length := by simp at h; omega
      subst hk2
      rw [List.getElem_append_right (Nat.le_refl _)]
      have : (xs ++ [y])[css.length] = y := by rw [List.getElem_append_right (by omega)]; simp
      rw [this]
      simp only [Nat.sub_self, List.getElem_cons_zero]
      exact hrv _
end
set_option maxHeartbeats 1000000 in
theorem clip_any (a : Option Addr) (n c : Nat) (w : World) (h : n ≤ c) (hc : c ≤ maxLen) (h0 : a = none → n = 0) :
    Calls Tryz.prog 75 #[.slice a n c] w fun e w' => e = .returned (.slice a n n) ∧ w = w' := by
  unfold maxLen at hc
  go_enter Tryz.func75, Tryz.ntmps75
  cases a with
  | none =>
    obtain rfl := h0 rfl
    go_wp2
    go_ret
    exact ⟨by simp, rfl⟩
  | some a =>
    go_wp2
    go_ret
    exact ⟨by simp, rfl⟩
/-- A variable and its value taken in: whether all fit, and the values. -/
def bst1 (p : Bool × Bnd) (q : ByteArray × ByteArray) : Bool × Bnd :=
  match lkB p.2 q.1 with
  | some w => (p.1 && decide (w = q.2), p.2)
  | none => (p.1, p.2 ++ [q])
theorem bst1_ext (p : Bool × Bnd) (q : ByteArray × ByteArray) : ∃ e, (bst1 p q).2 = p.2 ++ e ∧ e.length ≤ 1 ∧ ∀ x ∈ e, x = q := by
  unfold bst1
  split
  · exact ⟨[], by simp, by simp, by simp⟩
  · exact ⟨[q], rfl, by simp, by simp⟩
theorem bst_bind (av : Bnd) (x f : Fct) : bindF av x f = if (bst1 (bst1 (true, av) (x.a, f.a)) (x.b, f.b)).1 = true then some (bst1 (bst1 (true, av) (x.a, f.a)) (x.b, f.b)).2 else none := by
  unfold bindF bind1 bst1
  simp only
  cases h1 : lkB av x.a with
  | none =>
    simp only [Option.bind_some]
    cases h2 : lkB (av ++ [(x.a, f.a)]) x.b with
    | none => simp
    | some w =>
      by_cases e : w = f.b
      · simp [e]
      · simp [e]
  | some w =>
    by_cases e : w = f.a
    · subst e
      simp only [if_pos, Option.bind_some]
      cases h2 : lkB av x.b with
      | none => simp
      | some w' =>
        by_cases e' : w' = f.b
        · simp [e']
        · simp [e']
    · simp only [if_neg e, Option.bind_none]
      cases h2 : lkB av x.b with
      | none => simp [e]
      | some w' => simp [e]
/-- What a step of the recursion gives. -/
def wayStep (x : Fct) (bd L : List Fct) (av : Bnd) (ls : List Fct) (f : Fct) : List (Bnd × List Fct) := match bindF av x f with | none => [] | some bs => ways bd L bs (ls ++ [f])
theorem flatMap_byName {β : Type} (g : Fct → List β) (k : ByteArray) (L : List Fct) : L.flatMap (fun f => if f.n = k then g f else []) = (byName L k).flatMap g := by
  unfold byName
  induction L with
  | nil => rfl
  | cons y L ih =>
    rw [List.flatMap_cons, ih]
    by_cases h : y.n = k
    · rw [if_pos h, List.filter_cons_of_pos (by simpa using h), List.flatMap_cons]
    · rw [if_neg h, List.filter_cons_of_neg (by simpa using h), List.nil_append]
theorem ways_cons (x : Fct) (bd L : List Fct) (av : Bnd) (ls : List Fct) : ways (x :: bd) L av ls = (byName L x.n).flatMap (wayStep x bd L av ls) := flatMap_byName _ _ _
theorem slice_clip {α : Type} {t : Ty α} {m : Mem} {a : Option Addr} {c : Nat} {xs : List α} (h : (tSlice t).rv m [.slice a xs.length c] xs) : (tSlice t).rv m [.slice a xs.length xs.length] xs := by
  obtain ⟨a', c', e, h1, h2, h3⟩ := h
  injection e with e _
  injection e with e1 e2 e3
  subst e1
  exact ⟨a, xs.length, rfl, Nat.le_refl _, Nat.le_trans h1 h2, h3⟩
theorem slice_noaddr {α : Type} {t : Ty α} {m : Mem} {c : Nat} {xs : List α} (h : (tSlice t).rv m [.slice none xs.length c] xs) : xs.length = 0 := by
  rcases Nat.eq_zero_or_pos xs.length with h0 | h0
  · exact h0
  · obtain ⟨b, o, e, _⟩ := slice_at h h0
    cases e
theorem keepsQ {mb : Nat} {A B C : World} (h1 : Below A.heap.size A B) (h2 : Keeps (fun q => q = mb ∨ B.heap.size ≤ q) B C) : Keeps (fun q => q = mb ∨ A.heap.size ≤ q) A C :=
  ((below_keeps h1).wide (fun _ _ h => .inr h)).trans (h2.wide (fun _ _ h => h.imp_right (fun h => Nat.le_trans h1.size h)))
theorem chgD_wide {N : Nat} {S : Nat → Prop} {mb : Nat} {A B C : World} (h1 : A.heap.size ≤ B.heap.size) (h : Keeps (chgD N S mb B) B C) : Keeps (chgD N S mb A) B C :=
  h.wide (fun q _ h => by rcases h with h | h | h; exact .inl h; exact .inr (.inl h); exact .inr (.inr (Nat.le_trans h1 h)))
theorem mem_onN {N mb : Nat} {W : World} {av : Bnd} {α : Type} {t : Ty α} {v : Value} {xs : List α} (h : BMB W mb av) (hv : (tSlice t).rv ((mem W).on (N ≤ ·)) [v] xs) : (tSlice t).rv ((mem W).on (fun k => N ≤ k ∧ k ≠ mb)) [v] xs :=
  (tSlice t).mono _ _ _ _ (fun i o u e => by
    obtain ⟨e1, e2⟩ := Mem.of_on e
    obtain ⟨D, hown, _⟩ := h.1
    exact Mem.on_some e2 ⟨e1, fun e' => by subst e'; rw [mapBlock_mem hown o] at e2; cases e2⟩) hv
end Go.Proofs.YtafeaeaildfohaaGreatDoor
/- The recursive function of ring's matches: a step. -/
namespace Go.Proofs.YtafeaeaildfohaaGreatDoor
open Go.RowKit Go.Maps

def prN (x f : Fct) (j : Nat) : ByteArray × ByteArray := if j = 0 then (x.a, f.a) else (x.b, f.b)
def bstN (av : Bnd) (x f : Fct) : Nat → Bool × Bnd
  | 0 => (true, av)
  | j + 1 => bst1 (bstN av x f j) (prN x f j)
theorem bstN_ext (av : Bnd) (x f : Fct) : ∀ j, ∃ e, (bstN av x f j).2 = av ++ e ∧ e.length ≤ j ∧ ∀ p ∈ e, p = (x.a, f.a) ∨ p = (x.b, f.b)
  | 0 => ⟨[], by simp [bstN], Nat.le_refl _, by simp⟩
  | j + 1 => by
    obtain ⟨e, h1, h2, h3⟩ := bstN_ext av x f j
    obtain ⟨e', g1, g2, g3⟩ := bst1_ext (bstN av x f j) (prN x f j)
    refine ⟨e ++ e', by show (bst1 _ _).2 = _; rw [g1, h1, List.append_assoc], by rw [List.length_append]; omega, fun p hp => ?_⟩
    rcases List.mem_append.1 hp with hp | hp
    · exact h3 p hp
    · have := g3 p hp
      unfold prN at this
      split at this
      · exact .inl this
      · exact .inr this
/-- The variables bound here. -/
def newB (av cur : Bnd) : List ByteArray := (cur.drop av.length).map Prod.fst
theorem infoStrF : (Tryz.prog.info? 9).map (fun i => (i.zero, i.size, i.bytes)) = some (some (.string .empty), tStr.sz, 16) := by kernel_rfl
theorem strEq_dec (s t : ByteArray) : (s.toList == t.toList) = decide (s = t) := by
  rw [Lib.toList_data, Lib.toList_data]
  by_cases h : s = t
  · subst h; simp
  · have : ¬ s.data.toList = t.data.toList := fun e => h (bl_inj e)
    rw [decide_eq_false h, beq_eq_false_iff_ne]
    exact this
section
variable (We : World) (N : Nat) (S R : Nat → Prop) (l bb bY ba bx bD mb ib n : Nat) (bv : Value) (bd L : List Fct) (f : ByteArray → Option Value)
  (J : List (Bnd × List Fct) → World → Prop) (Stop : List (Bnd × List Fct) → (Bnd × List Fct) → World → Prop) (xs : List (Bnd × List Fct))
/-- What is shown of the recursive function for the atoms that are left. -/
def DownSpec (rest : List Fct) : Prop :=
  ∀ (dn : List Fct) (av : Bnd) (ls : List Fct) (lv : Value) (pre post : List (Bnd × List Fct)) (W : World), bd = dn ++ rest → ls.length = dn.length → xs = pre ++ ways rest L av ls ++ post → J pre W →
    DSt We R mb av W → tFcts.rv ((mem W).on (fun k => N ≤ k ∧ k ≠ mb)) [lv] ls → av.length ≤ 2 * dn.length →
    Calls Tryz.prog 74 #[lv, ptr0 bb, ptr0 bY, ptr0 ba, ptr0 bx, ptr0 bD] W (DOut N S mb av J Stop pre (ways rest L av ls) W)
end
set_option maxRecDepth 100000 in
set_option maxHeartbeats 8000000 in
theorem down_step (We : World) (N : Nat) (S R : Nat → Prop) (l bb bY ba bx bD mb ib n : Nat) (bv : Value) (bd L : List Fct) (f : ByteArray → Option Value) (he : DEnv We N S R l bb bY ba bx bD mb ib n bv bd L f) (hL : L.length ≤ 400)
    (J : List (Bnd × List Fct) → World → Prop) (Stop : List (Bnd × List Fct) → (Bnd × List Fct) → World → Prop) (xs : List (Bnd × List Fct)) (hJ : ∀ s A B, J s A → Below N A B → J s B) (hSt : ∀ s x A B, Stop s x A → Below N A B → Stop s x B)
    (x : Fct) (rest : List Fct) (ih : DownSpec We N S R bb bY ba bx bD mb bd L J Stop xs rest) : DownSpec We N S R bb bY ba bx bD mb bd L J Stop xs (x :: rest) := by
  intro dn av ls lv pre post W hbd hls hxs hJ0 hW hl hav
  obtain ⟨r1, r2, r3, r4, r5, r6⟩ := he.rr
  have c1 := hW.cell r1 he.cb
  have c4 := hW.cell r2 he.cx
  have hNW : N ≤ W.heap.size := Nat.le_trans he.ge hW.size
  obtain ⟨al, cl, rfl, hl1, hl2, -⟩ := slice_form hl
  obtain ⟨ab, cb, rfl, hb1, hb2, -⟩ := slice_form he.hb
  have hbl : bd.length = dn.length + (rest.length + 1) := by rw [hbd]; simp
  have hlt : dn.length < bd.length := by omega
  obtain ⟨qb, qo, rfl, ⟨q0, q1, q2⟩, hokx⟩ := fcts_at (hW.rv he.hb) hlt
  have hbx : bd[dn.length] = x := by simp only [hbd]; rw [List.getElem_append_right (Nat.le_refl _)]; simp
  rw [hbx] at q0 q1 q2 hokx
  rw [← hls] at q0 q1 q2
  have d0 : W.cell? ⟨qb, qo + ls.length * 3, none⟩ = some (.string x.n) := q0
  have d1 : W.cell? ⟨qb, qo + ls.length * 3 + 1, none⟩ = some (.string x.a) := q1
  have d2 : W.cell? ⟨qb, qo + ls.length * 3 + 2, none⟩ = some (.string x.b) := q2
  obtain ⟨ar, cr, hrow, hr1, hr2, -⟩ := slice_form (he.row x.n)
  have hA1 : Below W.heap.size W (W.alloc (.cells #[.string x.n, .string x.a, .string x.b] 25)) := (Below.refl _ _).alloc (Nat.le_refl _) _
  have c5 : (W.alloc (.cells #[.string x.n, .string x.a, .string x.b] 25)).cell? ⟨bx, 0, none⟩ = some (.map (some ib)) := below_mem hA1 _ _ _ c4
  have lk1 : (Instr.lookup 77 (.map (some ib)) (.string x.n) false).run Tryz.prog (W.alloc (.cells #[.string x.n, .string x.a, .string x.b] 25)) = .ok (.slice ar (byName L x.n).length cr) (W.alloc (.cells #[.string x.n, .string x.a, .string x.b] 25)) := by
    rw [← hrow]
    refine (he.im.at (W' := W.alloc (.cells #[.string x.n, .string x.a, .string x.b] 25)) ?_).look hokx.1
    have hib : ib < W.heap.size := he.rlt hW.size ib r3
    exact (hA1.block ib hib).trans (hW.same ib r3)
  have HVA := Lib.hid (show (W.alloc (.cells #[.string x.n, .string x.a, .string x.b] 25)).heap[W.heap.size]? = some (.cells #[.string x.n, .string x.a, .string x.b] 25 (0, 0)) from heap_alloc_new W _)
  have HROW := Lib.hid (show ∀ wr av', DSt We R mb av' wr → tFcts.rv (mem wr) [.slice ar (byName L x.n).length cr] (byName L x.n) from fun wr av' h => by rw [← hrow]; exact h.rv (he.row x.n))
  have HWAYS := Lib.hid (ways_cons x rest L av ls)
  have HE := Lib.hid he
  have HIH := Lib.hid ih
  have HJS := Lib.hid hJ
  have HSS := Lib.hid hSt
  have HXS := Lib.hid hxs
  have HBD := Lib.hid hbd
  have HLV := Lib.hid hl
  have HW := Lib.hid hW
  have HOKX := Lib.hid hokx
  have HAV := Lib.hid hav
  have HLSD := Lib.hid hls
  have HJ0 := Lib.hid (show J (pre ++ ((byName L x.n).take 0).flatMap (wayStep x rest L av ls)) (W.alloc (.cells #[.string x.n, .string x.a, .string x.b] 25)) from by
    rw [List.take_zero, List.flatMap_nil, List.append_nil]; exact hJ _ _ _ hJ0 (hA1.mono hNW))
  have HW0 := Lib.hid (show DSt We R mb av (W.alloc (.cells #[.string x.n, .string x.a, .string x.b] 25)) from hW.keep he (he.rlt hW.size) (((Keeps.refl _ W).alloc _)) (hW.at'.at (hA1.block mb (MapOf.lt hW.at'.1))))
  have HK0 := Lib.hid (show Keeps (chgD N S mb W) W (W.alloc (.cells #[.string x.n, .string x.a, .string x.b] 25)) from (Keeps.refl _ W).alloc _)
  have hrl : (byName L x.n).length ≤ 400 := Nat.le_trans (byName_len _ _) hL
  have hne : ((ls.length : Int) == (bd.length : Int)) = false := by rw [beq_eq_false_iff_ne]; omega
  have hlsb : ls.length < bd.length := by omega
  clear hbd hls hxs hJ0 hW hl hav ih hJ hSt he q0 q1 q2 r1 r2 r3 r4 r5 r6 hA1 hrow hokx hbx hlt hbl hL
  generalize hrows : byName L x.n = rows at *
  generalize hg : wayStep x rest L av ls = g at *
  have HG := Lib.hid hg
  clear hg
  go_enter Tryz.func74, Tryz.ntmps74
  go_wp2
  generalize hva : W.heap.size = va at HVA
  go_loopw [39] (fun i wr => ∃ k : Nat, k ≤ rows.length ∧ i = .int .i64 k ∧ Hid (J (pre ++ (rows.take k).flatMap g) wr) ∧ Hid (DSt We R mb av wr) ∧ Hid (Keeps (chgD N S mb W) W wr) ∧ Hid (wr.heap[va]? = some (.cells #[.string x.n, .string x.a, .string x.b] 25 (0, 0)))) (fun i _ => rows.length - (intOf i).toNat)
  case atStart => exact ⟨0, by omega, rfl, HJ0, HW0, HK0, HVA⟩
  case round =>
    clear HJ0 HW0 HK0 HVA lk1 d0 d1 d2 c1 c4 c5
    obtain ⟨k, hk, rfl, HJk, HWk, HKk, HVk⟩ := hrel
    by_cases hlt : k < rows.length
    · obtain ⟨b, o, rfl, ⟨q0, q1, q2⟩, hoky⟩ := fcts_at (HROW.out wr av HWk.out) hlt
      have e0 : wr.cell? ⟨b, o + k * 3, none⟩ = some (.string rows[k].n) := q0
      have e1 : wr.cell? ⟨b, o + k * 3 + 1, none⟩ = some (.string rows[k].a) := q1
      have e2 : wr.cell? ⟨b, o + k * 3 + 2, none⟩ = some (.string rows[k].b) := q2
      have HT := Lib.hid (show (rows.take (k + 1)).flatMap g = (rows.take k).flatMap g ++ g rows[k] from by rw [List.take_succ_eq_append_getElem hlt, List.flatMap_append]; simp)
      have HD := Lib.hid (show rows.flatMap g = (rows.take k).flatMap g ++ (g rows[k] ++ (rows.drop (k + 1)).flatMap g) from by
        conv => lhs; rw [← List.take_append_drop k rows, List.flatMap_append, List.drop_eq_getElem_cons hlt, List.flatMap_cons])
      have HOKY := Lib.hid hoky
      clear q0 q1 q2 hoky
      have HGY := Lib.hid (show g rows[k] = wayStep x rest L av ls rows[k] from by rw [HG.out])
      generalize rows[k] = y at *
      have hvs : va < wr.heap.size := (Array.getElem?_eq_some_iff.1 HVk.out).1
      have a1 : (wr.alloc (.cells #[.string y.n, .string y.a, .string y.b] 43)).cell? ⟨va, 1, none⟩ = some (.string x.a) := below_mem ((Below.refl _ wr).alloc (Nat.le_refl _) _) _ _ _ (mem_cells HVk.out 1)
      have a2 : (wr.alloc (.cells #[.string y.n, .string y.a, .string y.b] 43)).cell? ⟨va, 2, none⟩ = some (.string x.b) := below_mem ((Below.refl _ wr).alloc (Nat.le_refl _) _) _ _ _ (mem_cells HVk.out 2)
      clear HROW HG
      go_wp2
      generalize hX2 : (wr.alloc (.cells #[.string y.n, .string y.a, .string y.b] 43)).alloc (.cells #[.string x.a, .string y.a, .string x.b, .string y.b] 112) = X2
      have hvl : X2.heap[wr.heap.size + 1]? = some (.cells #[.string x.a, .string y.a, .string x.b, .string y.b] 112 (0, 0)) := by
        rw [← hX2]
        have := heap_alloc_new (wr.alloc (.cells #[.string y.n, .string y.a, .string y.b] 43)) (.cells #[.string x.a, .string y.a, .string x.b, .string y.b] 112)
        rwa [World.size_alloc] at this
      have hvf : X2.heap[wr.heap.size]? = some (.cells #[.string y.n, .string y.a, .string y.b] 43 (0, 0)) := by
        rw [← hX2]; exact (Below.heap_alloc _ _ _ (by simp)).trans (heap_alloc_new wr _)
      have hB2 : Below wr.heap.size wr X2 := by rw [← hX2]; exact ((Below.refl _ wr).alloc (Nat.le_refl _) _).alloc (by simp) _
      clear hX2 a1 a2 e0 e1 e2
      have hmbw : mb < wr.heap.size := MapOf.lt HWk.out.at'.1
      have HRL := Lib.hid (show ∀ q, R q → q < wr.heap.size ∧ q ≠ mb from fun q hq => ⟨HE.out.rlt HWk.out.size q hq, fun e => HE.out.free (W := wr) HWk.out.size hq (.inr (.inl e))⟩)
      have hs2 : wr.heap.size + 2 ≤ X2.heap.size := by have := (Array.getElem?_eq_some_iff.1 hvl).1; omega
      have HX2 := Lib.hid (show BMB X2 mb (bstN av x y 0).2 from HWk.out.at'.at (hB2.block mb hmbw))
      have HVL := Lib.hid (show ∀ wq, Keeps (fun q => q = mb ∨ X2.heap.size ≤ q) X2 wq → wq.heap[wr.heap.size + 1]? = some (.cells #[.string x.a, .string y.a, .string x.b, .string y.b] 112 (0, 0)) from fun wq hk => (hk.block _ (by omega) (by omega)).trans hvl)
      have HVF := Lib.hid (show ∀ wq, Keeps (fun q => q = mb ∨ X2.heap.size ≤ q) X2 wq → wq.heap[wr.heap.size]? = some (.cells #[.string y.n, .string y.a, .string y.b] 43 (0, 0)) from fun wq hk => (hk.block _ (by omega) (by omega)).trans hvf)
      have HRQ := Lib.hid (show ∀ wq, Keeps (fun q => q = mb ∨ X2.heap.size ≤ q) X2 wq → DSt We R mb av wr → ∀ q, R q → wq.heap[q]? = We.heap[q]? from fun wq hk hd q hq => by
        have := HRL.out q hq
        exact ((hk.block q (by omega) (by omega)).trans (hB2.block q (by omega))).trans (hd.same q hq))
      have HB2 := Lib.hid hB2
      obtain ⟨w0, hw0⟩ : ∃ w0, w0 = wr := ⟨_, rfl⟩
      subst hw0
      have hNv : N ≤ va := by omega
      have hls' : ls.length ≤ 3 := by have := HE.out.len; omega
      clear hvl hvf hB2 hlsb hrows hr1 hr2 hb1 hb2 hva hvs
      go_loopw [11, 12, 55] (fun bnd fits i wq => ∃ j : Nat, j ≤ 2 ∧ i = .int .i64 j ∧ fits = .bool (bstN av x y j).1 ∧ Hid (BMB wq mb (bstN av x y j).2) ∧ Hid (Owns tStr wq X2.heap.size 9 bnd (newB av (bstN av x y j).2)) ∧ Hid (Keeps (fun q => q = mb ∨ X2.heap.size ≤ q) X2 wq)) (fun _ _ i _ => 2 - (intOf i).toNat)
      case atStart => exact ⟨0, by omega, rfl, rfl, HX2, Lib.hid (by show Owns tStr X2 X2.heap.size _ _ ((av.drop av.length).map Prod.fst); rw [List.drop_length]; exact Owns.nil _ _ _ _), Lib.hid (Keeps.refl _ _)⟩
      case round =>
        clear HX2
        obtain ⟨j, hj, rfl, rfl, HM, HO, HQ⟩ := hrel
        by_cases hjl : j < 2
        · obtain ⟨p1, p2, hp⟩ : ∃ p1 p2, prN x y j = (p1, p2) := ⟨_, _, rfl⟩
          have hpc : wr.cell? ⟨w0.heap.size + 1, j * 2, none⟩ = some (.string p1) ∧ wr.cell? ⟨w0.heap.size + 1, j * 2 + 1, none⟩ = some (.string p2) := by
            have h0 := mem_cells (HVL.out wr HQ.out)
            match j, hjl, hp with
            | 0, _, hp => injection hp with e1 e2; subst e1; subst e2; exact ⟨h0 0, h0 1⟩
            | 1, _, hp => injection hp with e1 e2; subst e1; subst e2; exact ⟨h0 2, h0 3⟩
          obtain ⟨b0, b1⟩ := hpc
          have hps : p1.size ≤ maxLen ∧ p2.size ≤ maxLen := by
            unfold prN at hp
            split at hp
            · injection hp with e1 e2; subst e1; subst e2; exact ⟨HOKX.out.2.1, HOKY.out.2.1⟩
            · injection hp with e1 e2; subst e1; subst e2; exact ⟨HOKX.out.2.2, HOKY.out.2.2⟩
          have HSN := Lib.hid (show bstN av x y (j + 1) = bst1 (bstN av x y j) (p1, p2) from by rw [← hp]; rfl)
          have hlen2 : (bstN av x y j).2.length < 1000 := by
            obtain ⟨e, g1, g2, -⟩ := bstN_ext av x y j
            rw [g1, List.length_append]
            have := HAV.out
            have := HE.out.len
            have := HBD.out
            have : dn.length ≤ bd.length := by rw [this]; simp
            omega
          have HEX := Lib.hid (bstN_ext av x y j)
          have HB3 := Lib.hid (fun o => (show Keeps (fun q => q = mb ∨ X2.heap.size ≤ q) X2 (wr.alloc o) from HQ.out.alloc o))
          have cA : ∀ o, (wr.alloc o).cell? ⟨ba, 0, none⟩ = some (.map (some mb)) := fun o => by
            have h1 := HRQ.out _ (HB3.out o) HWk.out ba HE.out.rr.2.2.2.2.1
            exact (mem_of_block h1 0).trans HE.out.ca
          have HM3 := Lib.hid (fun o => (show BMB (wr.alloc o) mb (bstN av x y j).2 from HM.out.at (Below.heap_alloc _ _ _ (MapOf.lt HM.out.1))))
          have cA' := cA (.cells #[.string p1, .string p2] 112)
          have lk := (HM3.out (.cells #[.string p1, .string p2] 112)).lookOk hps.1
          have HPS := Lib.hid hps
          have HO3 := Lib.hid (fun o => HO.out.alloc o)
          obtain ⟨aU, cU, hU, hUl⟩ := HO.out.len
          subst hU
          clear cA hp hps HVL
          generalize hst : bstN av x y j = st at *
          obtain ⟨ft, cur⟩ := st
          have HST := Lib.hid hst
          clear hst
          simp only at lk hlen2 HM HM3 HO HO3 hUl HEX
          cases hlk : lkB cur p1 with
          | some wv =>
            rw [hlk] at lk
            simp only [strD, Option.isSome] at lk
            have HLK := Lib.hid hlk
            clear hlk
            have HMF := Lib.hid (HM3.out (.cells #[.string p1, .string p2] 112))
            have HOF := Lib.hid (HO3.out (.cells #[.string p1, .string p2] 112))
            have HKF := Lib.hid (HB3.out (.cells #[.string p1, .string p2] 112))
            have HN1 := Lib.hid (show bstN av x y (j + 1) = (ft && decide (wv = p2), cur) from by rw [HSN.out]; unfold bst1; simp only [HLK.out])
            clear HSN HM HM3 HO HO3 HB3 HEX HLK
            cases ft with
            | false =>
              go_wp2
              go_roundw
              case rel => exact ⟨j + 1, by omega, by go_num, by rw [HN1.out]; rfl, by rw [HN1.out]; exact HMF, by rw [HN1.out]; exact HOF, HKF⟩
              case measure => simp [intOf]; omega
            | true =>
              go_wp2
              go_roundw
              case rel => exact ⟨j + 1, by omega, by go_num, by rw [HN1.out, Bool.true_and, strEq_dec], by rw [HN1.out]; exact HMF, by rw [HN1.out]; exact HOF, HKF⟩
              case measure => simp [intOf]; omega
          | none =>
            rw [hlk] at lk
            simp only [strD, Option.isSome] at lk
            have HN1 := Lib.hid (show bstN av x y (j + 1) = (ft, cur ++ [(p1, p2)]) from by rw [HSN.out]; unfold bst1; simp only [hlk])
            obtain ⟨w4, hr4, hm4, hg4⟩ := (HM3.out (.cells #[.string p1, .string p2] 112)).put hlen2 HPS.out.1 HPS.out.2 hlk
            have hnm : ∀ {u : World} {z : Value} {q : List ByteArray}, Owns tStr u X2.heap.size 9 z q → BMB u mb cur → z.ownBlock ≠ some mb := fun {u z q} ho hm e => by
              obtain ⟨D, ⟨es, clock, hh, _⟩, _⟩ := hm.1
              have := own_cells ho mb _ e hh
              cases this
            have hnm2 : ∀ {u : World} {z : Value} {q : List ByteArray} {c2 : Bnd}, Owns tStr u X2.heap.size 9 z q → BMB u mb c2 → z.ownBlock ≠ some mb := fun {u z q c2} ho hm e => by
              obtain ⟨D, ⟨es, clock, hh, _⟩, _⟩ := hm.1
              have := own_cells ho mb _ e hh
              cases this
            have ho4 : Owns tStr w4 X2.heap.size 9 (.slice aU (newB av cur).length cU) (newB av cur) := by
              refine (HO3.out (.cells #[.string p1, .string p2] 112)).keepsFlat tStr_flat (grown_keeps hg4) (fun q hq e => ?_)
              injection e with e
              subst e
              exact hnm (HO3.out (.cells #[.string p1, .string p2] 112)) (HM3.out _) hq
            have hmbw2 : mb < wr.heap.size := MapOf.lt HM.out.1
            have hvb4 : w4.heap[wr.heap.size]? = some (.cells #[.string p1, .string p2] 112 (0, 0)) := (hg4.block _ (by simp) (fun e => by injection e with e; omega)).trans (heap_alloc_new wr _)
            have n0 : w4.cell? ⟨wr.heap.size, 0, none⟩ = some (.string p1) := mem_cells hvb4 0
            have HK4 := Lib.hid (show Keeps (fun q => q = mb ∨ X2.heap.size ≤ q) X2 w4 from (HB3.out _).trans ((grown_keeps hg4).wide (fun q _ e => by injection e with e; exact .inl e)))
            have HM4 := Lib.hid hm4
            have HO4 := Lib.hid ho4
            have hcl : (newB av cur).length ≤ 1000 := by unfold newB; rw [List.length_map, List.length_drop]; omega
            have hsz4 : X2.heap.size ≤ w4.heap.size := HK4.out.size
            have HNB := Lib.hid (show newB av (cur ++ [(p1, p2)]) = newB av cur ++ [p1] from by
              obtain ⟨e, g1, -⟩ := HEX.out
              unfold newB
              rw [g1, List.append_assoc, List.drop_left, List.drop_left, List.map_append]; rfl)
            clear hlk HSN HM HM3 HO HO3 HB3 HEX hm4 ho4 hg4 hvb4 hnm
            go_wp2_with (at_builtin; refine wpList_append_one rfl _ _ 30 rfl tStr Tryz.underlying30 infoStrF rfl (by decide) X2.heap.size _ (newB av cur) rfl (HO4.out.alloc _) _ _ p1 rfl [.string p1] ?a2 ⟨rfl, HPS.out.1⟩ ?b2 ?c2 ?d2 ?e2 ?_)
            case a2 => exact fun j u hj => by match j, hj with | 0, hj => simp at hj; subst hj; simp [mem]
            case b2 => intro x hx; simp at hx; subst hx; rfl
            case c2 => unfold maxLen; omega
            case d2 => omega
            case e2 => simp; omega
            intro v' w6 own6 hgrow _
            have HK6 := Lib.hid (show Keeps (fun q => q = mb ∨ X2.heap.size ≤ q) X2 w6 from (HK4.out.alloc _).trans ((grown_keeps hgrow).wide (fun q _ e => .inr (HO4.out.lt q e.symm).1)))
            have HM6 := Lib.hid (show BMB w6 mb (cur ++ [(p1, p2)]) from HM4.out.at ((hgrow.block mb (by have := HK4.out.size; have := MapOf.lt HM4.out.1; simp; omega) (fun e => hnm2 HO4.out HM4.out e.symm)).trans (Below.heap_alloc _ _ _ (MapOf.lt HM4.out.1))))
            obtain ⟨a6, cap6, hv6, _⟩ := own6.len
            rw [List.length_append, List.length_singleton] at hv6
            subst hv6
            have HO6 := Lib.hid (show Owns tStr w6 X2.heap.size 9 (.slice a6 ((newB av cur).length + 1) cap6) (newB av (cur ++ [(p1, p2)])) from by rw [HNB.out]; exact own6)
            generalize (newB av cur).length + 1 = nl at HO6 ⊢
            clear own6 hgrow hr4 n0 hnm2 HO4 HM4 lk cA' b0 b1
            go_wp2
            go_roundw
            case rel => exact ⟨j + 1, by omega, by go_num, by rw [HN1.out], by rw [HN1.out]; exact HM6, by rw [HN1.out]; exact HO6, HK6⟩
            case measure => simp [intOf]; omega
        · obtain rfl : j = 2 := by omega
          have HGW := Lib.hid (show g y = if (bstN av x y 2).1 = true then ways rest L (bstN av x y 2).2 (ls ++ [y]) else [] from by
            rw [HGY.out]
            unfold wayStep
            rw [bst_bind]
            show (match (if (bstN av x y 2).1 = true then some (bstN av x y 2).2 else none) with | none => [] | some bs => ways rest L bs (ls ++ [y])) = _
            split
            · next h => split at h <;> simp_all
            · next h => split at h <;> simp_all)
          have HEX := Lib.hid (bstN_ext av x y 2)
          obtain ⟨aU, cU, hU, hUl⟩ := HO.out.len
          subst hU
          have HDS := Lib.hid (show DSt We R mb (bstN av x y 2).2 wr from ⟨Nat.le_trans HWk.out.size (Nat.le_trans (by omega) HQ.out.size), HRQ.out wr HQ.out HWk.out, HM.out⟩)
          have hz2 : X2.heap.size ≤ wr.heap.size := HQ.out.size
          have HKW := Lib.hid (show Keeps (chgD N S mb w0) w0 wr from (keepsQ HB2.out HQ.out).wide (fun q _ h => .inr h))
          have HYV := HVF.out wr HQ.out
          have y0 : wr.cell? ⟨w0.heap.size, 0, none⟩ = some (.string y.n) := mem_cells HYV 0
          have y1 : wr.cell? ⟨w0.heap.size, 1, none⟩ = some (.string y.a) := mem_cells HYV 1
          have y2 : wr.cell? ⟨w0.heap.size, 2, none⟩ = some (.string y.b) := mem_cells HYV 2
          have cD : wr.cell? ⟨bD, 0, none⟩ = some (.func (.func 74) #[] #[ptr0 bb, ptr0 bY, ptr0 ba, ptr0 bx, ptr0 bD]) := HDS.out.cell HE.out.rr.2.2.2.2.2 HE.out.cd
          clear HYV HVL HVF HRQ HM
          generalize hst : bstN av x y 2 = st at *
          obtain ⟨ft, cur⟩ := st
          have HST := Lib.hid hst
          clear hst
          simp only at HGW HEX HDS HO hUl
          have hcl : (newB av cur).length ≤ 2 := by
            obtain ⟨e, g1, g2, -⟩ := HEX.out
            unfold newB
            rw [g1, List.drop_left, List.length_map]; exact g2
          have HREST := Lib.hid (show ∀ wz : World, Keeps (chgD N S mb wr) wr wz → BMB wz mb cur → DSt We R mb cur wz ∧ Keeps (chgD N S mb W) W wz ∧ Keeps (chgD N S mb w0) w0 wz ∧ wz.heap[va]? = some (.cells #[.string x.n, .string x.a, .string x.b] 25 (0, 0)) ∧ tStrs.rv (mem wz) [.slice aU (newB av cur).length cU] (newB av cur) from fun wz hk hm => by
            have hk0 : Keeps (chgD N S mb w0) w0 wz := HKW.out.trans (chgD_wide HKW.out.size hk)
            have hvl : va < w0.heap.size := (Array.getElem?_eq_some_iff.1 HVk.out).1
            refine ⟨HDS.out.keep HE.out (HE.out.rlt HDS.out.size) hk hm, HKk.out.trans (chgD_wide HKk.out.size hk0), hk0, (hk0.block va hvl ?_).trans HVk.out, ?_⟩
            · rintro (⟨e, _⟩ | e | e)
              · omega
              · subst e
                obtain ⟨D, ⟨es, c, hh, _⟩, _⟩ := HWk.out.at'.1
                rw [HVk.out] at hh; cases hh
              · omega
            · refine tStrs.mono _ _ _ _ (fun i o u e => ?_) (HO.out.rv (S := (X2.heap.size ≤ ·)) (fun _ h => h) (fun q cs _ h => tStr_flat _ _ _ _ h))
              obtain ⟨e1, e2⟩ := Mem.of_on e
              refine (mem_of_block (hk.block i (mem_lt e2) ?_) o).trans e2
              rintro (⟨e3, _⟩ | e3 | e3)
              · have := HWk.out.size; have := HE.out.ge; omega
              · subst e3
                obtain ⟨D, hown, _⟩ := HDS.out.at'.1
                rw [mapBlock_mem hown o] at e2; cases e2
              · have := mem_lt e2; omega)
          have HKQ := Lib.hid (keepsQ HB2.out HQ.out)
          have hN0 : N ≤ w0.heap.size := by have := HE.out.ge; have := HWk.out.size; omega
          have HJW := Lib.hid (show J (pre ++ (rows.take k).flatMap g) wr from HJS.out _ _ _ HJk.out (HKQ.out.below hN0 (fun q h => by rcases h with h | h; rw [h]; exact HE.out.gm; omega)))
          cases ft with
          | false =>
            have HPZ := Lib.hid (show J (pre ++ (rows.take (k + 1)).flatMap g) wr.drew from by
              rw [HT.out, HGW.out, if_neg (by simp), List.append_nil]
              exact HJS.out _ _ _ HJW.out (Below.refl _ _).drew)
            have HKZ := Lib.hid (show Keeps (chgD N S mb wr) wr wr.drew from (Keeps.refl _ wr).drew)
            have HMZ := Lib.hid (show BMB wr.drew mb cur from HDS.out.at'.at rfl)
            clear y0 y1 y2 cD
            go_upto_region 18 with fail
            first | (go_region_with (fail)) | fail
            all_goals
              generalize wr.drew = wz at *
              have HZ := Lib.hid (HREST.out wz HKZ.out HMZ.out)
              obtain ⟨ad, hcur, -, -⟩ := HEX.out
              have hnbl : newB av cur = ad.map Prod.fst := by unfold newB; rw [hcur, List.drop_left]
              generalize newB av cur = nbl at HZ hcl hnbl ⊢
              have HAD := Lib.hid hcur
              have HNBL := Lib.hid hnbl
              clear hcur hnbl HREST HO
              go_wp2
              go_loopw [98] (fun i wd => ∃ m : Nat, m ≤ nbl.length ∧ i = .int .i64 m ∧ Hid (BMB wd mb (av ++ ad.drop m)) ∧ Hid (Keeps (fun q => q = mb) wz wd)) (fun i _ => nbl.length - (intOf i).toNat)
              case atStart => exact ⟨0, Nat.zero_le _, rfl, Lib.hid (by rw [List.drop_zero, ← HAD.out]; exact HMZ.out), Lib.hid (Keeps.refl _ _)⟩
              case round =>
                obtain ⟨m, hm, rfl, HMd, HKd⟩ := hrel
                have HDd := Lib.hid (show DSt We R mb (av ++ ad.drop m) wr from HZ.out.1.keep HE.out (HE.out.rlt HZ.out.1.size) (HKd.out.wide (fun q _ h => .inr (.inl h))) HMd.out)
                by_cases hml : m < nbl.length
                · obtain ⟨bU, oU, rfl, s0, ssz⟩ := str_cell (tStrs.mono _ _ _ _ (HMZ.out.memLe HKd.out) HZ.out.2.2.2.2) hml
                  have t0 : wr.cell? ⟨bU, oU + m, none⟩ = some (.string nbl[m]) := s0
                  have cA : wr.cell? ⟨ba, 0, none⟩ = some (.map (some mb)) := HDd.out.cell HE.out.rr.2.2.2.2.1 HE.out.ca
                  have hma : m < ad.length := by have := HNBL.out; rw [this, List.length_map] at hml; exact hml
                  have hsp : ad.drop m = (nbl[m], ad[m].2) :: ad.drop (m + 1) := by
                    rw [List.drop_eq_getElem_cons hma]
                    congr 1
                    have : nbl[m] = (ad[m]).1 := by simp only [HNBL.out, List.getElem_map]
                    rw [this]
                  have hmd := HMd.out
                  rw [hsp] at hmd
                  obtain ⟨w9, hd9, hm9, hg9⟩ := BMB.dropMid hmd ssz 0
                  have HM9 := Lib.hid hm9
                  have HK9 := Lib.hid (show Keeps (fun q => q = mb) wz w9 from HKd.out.trans ((grown_keeps hg9).wide (fun q _ e => by injection e)))
                  clear s0 hsp hmd hm9 hg9
                  generalize nbl[m] = nm at *
                  go_wp2
                  go_roundw
                  case rel => exact ⟨m + 1, by omega, by go_num, HM9, HK9⟩
                  case measure => simp [intOf]; omega
                · obtain rfl : m = nbl.length := by omega
                  have hda : ad.drop nbl.length = [] := by rw [HNBL.out, List.length_map, List.drop_length]
                  have HMF := Lib.hid (show BMB wr mb av from by have := HMd.out; rwa [hda, List.append_nil] at this)
                  have HDF := Lib.hid (show DSt We R mb av wr from by have := HDd.out; rwa [hda, List.append_nil] at this)
                  have HKF := Lib.hid (show Keeps (chgD N S mb W) W wr from HZ.out.2.1.trans (HKd.out.wide (fun q _ h => .inr (.inl h))))
                  have hBN : Below N wz wr := HKd.out.below (by have := HZ.out.1.size; have := HE.out.ge; omega) (fun q e => by have := HE.out.gm; omega)
                  have HBN := Lib.hid hBN
                  have HVF := Lib.hid (show wr.heap[va]? = some (.cells #[.string x.n, .string x.a, .string x.b] 25 (0, 0)) from by
                    refine (HKd.out.block va (Array.getElem?_eq_some_iff.1 HZ.out.2.2.2.1).1 (fun e => ?_)).trans HZ.out.2.2.2.1
                    subst e
                    obtain ⟨D, ⟨es, c, hh, _⟩, _⟩ := HMZ.out.1
                    rw [HZ.out.2.2.2.1] at hh; cases hh)
                  clear hBN hda HMd HDd
                  have HJF := Lib.hid (show J (pre ++ (rows.take (k + 1)).flatMap g) wr from HJS.out _ _ _ HPZ.out HBN.out)
                  go_wp2
                  go_roundw
                  case rel => exact ⟨k + 1, by omega, by go_num, HJF, HDF, HKF, HVF⟩
                  case measure => simp [intOf]; omega
          | true =>
            have hcB : ∀ o, (Below wr.heap.size wr (wr.alloc o).drew) := fun o => ((Below.refl _ _).alloc (Nat.le_refl _) o).drew
            have hlvr : tFcts.rv ((mem wr).on (fun q => N ≤ q ∧ q ≠ mb)) [.slice al ls.length cl] ls := tFcts.mono _ _ _ _ (fun i o u e => by
              obtain ⟨⟨e1, e2⟩, e3⟩ := Mem.of_on e
              have hlt3 := mem_lt e3
              have h0 := mem_of_block (HKk.out.block i hlt3 (fun h => by rcases h with ⟨h, _⟩ | h | h <;> omega)) o
              have h1 := mem_of_block (HKQ.out.block i (Nat.lt_of_lt_of_le hlt3 HKk.out.size) (fun h => by have := HKk.out.size; rcases h with h | h <;> omega)) o
              exact Mem.on_some ((h1.trans h0).trans e3) ⟨e1, e2⟩) HLV.out
            have hal : al = none → ls.length = 0 := fun e => by subst e; exact slice_noaddr hlvr
            have hd2 : dn.length ≤ 2 := by have := HE.out.len; have h2 := HBD.out; rw [h2] at this; simp at this; omega
            obtain ⟨v5, w5, hap, hown5, hg5⟩ := run_append_full (P := Tryz.prog) tFct_flat (wr.alloc (.cells #[.string y.n, .string y.a, .string y.b] 43)).drew 39 39 Tryz.underlying39 infoFct rfl (by decide) al ls
              (slice_clip (tFcts.mono _ _ _ _ (Mem.le_trans (Mem.on_le _ _) (below_mem (hcB _))) hlvr)) wr.heap.size 1 y [.string y.n, .string y.a, .string y.b] (fun j u hj => by
                have := mem_cells (heap_alloc_new wr (.cells #[.string y.n, .string y.a, .string y.b] 43)) (0 + j)
                refine (show mem (wr.alloc (.cells #[.string y.n, .string y.a, .string y.b] 43)).drew wr.heap.size (0 + j) = mem (wr.alloc (.cells #[.string y.n, .string y.a, .string y.b] 43)) wr.heap.size (0 + j) from rfl).trans (this.trans ?_)
                rw [Nat.zero_add]; simpa using hj) (fun m => ⟨rfl, HOKY.out⟩) (fun u hu => by simp at hu; rcases hu with rfl | rfl | rfl <;> rfl) (by have := HAV.out; have := hls'; unfold maxLen; omega) (by have := hls'; omega)
            have hY5 : Below wr.heap.size wr w5 := (hcB _).trans (Keeps.below (grown_keeps hg5) (by show wr.heap.size ≤ (wr.alloc _).heap.size; simp) (fun q e => by cases e))
            have HD5 := Lib.hid (show DSt We R mb cur w5 from HDS.out.keep HE.out (HE.out.rlt HDS.out.size) ((below_keeps hY5).wide (fun q _ h => .inr (.inr h))) (HDS.out.at'.at (hY5.block mb (MapOf.lt HDS.out.at'.1))))
            have cD5 : w5.cell? ⟨bD, 0, none⟩ = some (.func (.func 74) #[] #[ptr0 bb, ptr0 bY, ptr0 ba, ptr0 bx, ptr0 bD]) := HD5.out.cell HE.out.rr.2.2.2.2.2 HE.out.cd
            have cDY : ∀ o, (wr.alloc o).drew.cell? ⟨bD, 0, none⟩ = some (.func (.func 74) #[] #[ptr0 bb, ptr0 bY, ptr0 ba, ptr0 bx, ptr0 bD]) := fun o => below_mem (hcB o) _ _ _ cD
            obtain ⟨a5, c5, hv5, _⟩ := hown5.len
            have hYs : N ≤ (wr.alloc (.cells #[.string y.n, .string y.a, .string y.b] 43)).drew.heap.size := by
              show N ≤ (wr.alloc (.cells #[.string y.n, .string y.a, .string y.b] 43)).heap.size
              have := HE.out.ge; have := HDS.out.size; simp; omega
            have hrv5 : tFcts.rv ((mem w5).on (fun q => N ≤ q ∧ q ≠ mb)) [v5] (ls ++ [y]) := mem_onN HD5.out.at' (hown5.rv (S := (N ≤ ·)) (fun b hb => Nat.le_trans hYs hb) (fun q cs _ h => tFct_flat _ _ _ _ h))
            have HCALL := Lib.hid (HIH.out (dn ++ [x]) cur (ls ++ [y]) v5 (pre ++ (rows.take k).flatMap g) ((rows.drop (k + 1)).flatMap g ++ post) w5 (by rw [HBD.out]; simp) (by have := HLSD.out; simp; omega)
              (by rw [HXS.out, HWAYS.out, HD.out, HGW.out, if_pos rfl]; simp) (HJS.out _ _ _ HJW.out (hY5.mono (by have := HE.out.ge; have := HDS.out.size; omega))) HD5.out hrv5 (by
                obtain ⟨e, g1, g2, -⟩ := HEX.out
                have := HAV.out
                rw [show cur = av ++ e from g1]; simp; omega))
            have HY5 := Lib.hid hY5
            rw [List.length_append, List.length_singleton] at hv5
            subst hv5
            clear hown5 hg5 hrv5 hY5 hlvr
            have SD : wr.drew.cell? ⟨bD, 0, none⟩ = some (.func (.func 74) #[] #[ptr0 bb, ptr0 bY, ptr0 ba, ptr0 bx, ptr0 bD]) ∧ wr.drew.cell? ⟨w0.heap.size, 0, none⟩ = some (.string y.n) ∧ wr.drew.cell? ⟨w0.heap.size, 1, none⟩ = some (.string y.a) ∧ wr.drew.cell? ⟨w0.heap.size, 2, none⟩ = some (.string y.b) := ⟨cD, y0, y1, y2⟩
            have HSY := Lib.hid (show ∀ o, (wr.alloc o).drew.cell? ⟨bD, 0, none⟩ = some (.func (.func 74) #[] #[ptr0 bb, ptr0 bY, ptr0 ba, ptr0 bx, ptr0 bD]) ∧ (wr.alloc o).drew.cell? ⟨w0.heap.size, 0, none⟩ = some (.string y.n) ∧ (wr.alloc o).drew.cell? ⟨w0.heap.size, 1, none⟩ = some (.string y.a) ∧ (wr.alloc o).drew.cell? ⟨w0.heap.size, 2, none⟩ = some (.string y.b) from fun o => ⟨cDY o, below_mem (hcB o) _ _ _ y0, below_mem (hcB o) _ _ _ y1, below_mem (hcB o) _ _ _ y2⟩)
            have HS5 := Lib.hid (show w5.cell? ⟨bD, 0, none⟩ = some (.func (.func 74) #[] #[ptr0 bb, ptr0 bY, ptr0 ba, ptr0 bx, ptr0 bD]) ∧ w5.cell? ⟨w0.heap.size, 0, none⟩ = some (.string y.n) ∧ w5.cell? ⟨w0.heap.size, 1, none⟩ = some (.string y.a) ∧ w5.cell? ⟨w0.heap.size, 2, none⟩ = some (.string y.b) from ⟨cD5, below_mem HY5.out _ _ _ y0, below_mem HY5.out _ _ _ y1, below_mem HY5.out _ _ _ y2⟩)
            have hvfn : ∀ w6 : World, Keeps (chgD N S mb w5) w5 w6 → w6.heap[w0.heap.size]? = w5.heap[w0.heap.size]? := fun w6 hk => hk.block _ (by have := HY5.out.size; have := HQ.out.size; omega) (fun h => by have := HY5.out.size; have := HQ.out.size; rcases h with ⟨h, _⟩ | h | h <;> omega)
            have HS6 := Lib.hid (show ∀ w6 : World, Keeps (chgD N S mb w5) w5 w6 → w6.cell? ⟨bD, 0, none⟩ = some (.func (.func 74) #[] #[ptr0 bb, ptr0 bY, ptr0 ba, ptr0 bx, ptr0 bD]) ∧ w6.cell? ⟨w0.heap.size, 0, none⟩ = some (.string y.n) ∧ w6.cell? ⟨w0.heap.size, 1, none⟩ = some (.string y.a) ∧ w6.cell? ⟨w0.heap.size, 2, none⟩ = some (.string y.b) from fun w6 hk => ⟨(mem_of_block (hk.block bD (HE.out.rlt HD5.out.size bD HE.out.rr.2.2.2.2.2) (HE.out.free HD5.out.size HE.out.rr.2.2.2.2.2)) 0).trans cD5, (mem_of_block (hvfn w6 hk) 0).trans HS5.out.2.1, (mem_of_block (hvfn w6 hk) 1).trans HS5.out.2.2.1, (mem_of_block (hvfn w6 hk) 2).trans HS5.out.2.2.2⟩)
            have HCALL2 := Lib.hid (HCALL.out.mono (R' := fun e w6 => ∃ okv : Bool, e = .returned (.bool okv) ∧ Keeps (chgD N S mb wr) wr w6 ∧ BMB w6 mb cur ∧
                ((okv = true ∧ J (pre ++ (rows.take (k + 1)).flatMap g) w6) ∨ (okv = false ∧ ∃ p z q, ways (x :: rest) L av ls = p ++ z :: q ∧ Stop (pre ++ p) z w6)) ∧ (w6.cell? ⟨bD, 0, none⟩ = some (.func (.func 74) #[] #[ptr0 bb, ptr0 bY, ptr0 ba, ptr0 bx, ptr0 bD]) ∧ w6.cell? ⟨w0.heap.size, 0, none⟩ = some (.string y.n) ∧ w6.cell? ⟨w0.heap.size, 1, none⟩ = some (.string y.a) ∧ w6.cell? ⟨w0.heap.size, 2, none⟩ = some (.string y.b))) (fun e w6 h => by
              obtain ⟨hk, hm, h⟩ := h
              have hkk : Keeps (chgD N S mb wr) wr w6 := ((below_keeps HY5.out).wide (fun q _ h => .inr (.inr h))).trans (chgD_wide HY5.out.size hk)
              rcases h with ⟨rfl, h⟩ | ⟨rfl, p, z, q, h1, h2⟩
              · refine ⟨true, rfl, hkk, hm, .inl ⟨rfl, ?_⟩, HS6.out w6 hk⟩
                rw [HT.out, HGW.out, if_pos rfl, ← List.append_assoc]; exact h
              · refine ⟨false, rfl, hkk, hm, .inr ⟨rfl, (rows.take k).flatMap g ++ p, z, q ++ (rows.drop (k + 1)).flatMap g, ?_, ?_⟩, HS6.out w6 hk⟩
                · rw [HWAYS.out, HD.out, HGW.out, if_pos rfl, h1]; simp
                · rw [← List.append_assoc]; exact h2))
            clear hcB hvfn cD y0 y1 y2 cD5 cDY HCALL
            go_upto_region 18 with fail
            go_region_held3 (fun u => u.cell? ⟨bD, 0, none⟩ = some (.func (.func 74) #[] #[ptr0 bb, ptr0 bY, ptr0 ba, ptr0 bx, ptr0 bD]) ∧ u.cell? ⟨w0.heap.size, 0, none⟩ = some (.string y.n) ∧ u.cell? ⟨w0.heap.size, 1, none⟩ = some (.string y.a) ∧ u.cell? ⟨w0.heap.size, 2, none⟩ = some (.string y.b))
              (first | exact SD | exact HSY.out _ | exact HS5.out | exact H6.out.2.2.2)
              ((first
                | (refine step_append_run rfl (.tmp 90) (.tmp 92) 39 rfl (.slice al ls.length ls.length) (.slice (some ⟨wr.heap.size, 0, none⟩) 1 1) _ rfl rfl hap ?_)
                | (go_at_call 75; refine (clip_any al ls.length cl _ hl1 hl2 hal).mono ?_; rintro e w6 ⟨rfl, rfl⟩)
                | (go_at_call 74; refine HCALL2.out.mono ?_; rintro e wz ⟨okv, rfl, h6⟩; have H6 := Lib.hid h6; clear h6)))
            all_goals
              have HKZ := Lib.hid H6.out.1
              have HMZ := Lib.hid H6.out.2.1
              have HPZ := Lib.hid H6.out.2.2.1
              clear H6 HS5 HS6 HSY SD hap HCALL2
              have HZ := Lib.hid (HREST.out wz HKZ.out HMZ.out)
              obtain ⟨ad, hcur, -, -⟩ := HEX.out
              have hnbl : newB av cur = ad.map Prod.fst := by unfold newB; rw [hcur, List.drop_left]
              generalize newB av cur = nbl at HZ hcl hnbl ⊢
              have HAD := Lib.hid hcur
              have HNBL := Lib.hid hnbl
              clear hcur hnbl HREST HO
              go_wp2
              go_loopw [98] (fun i wd => ∃ m : Nat, m ≤ nbl.length ∧ i = .int .i64 m ∧ Hid (BMB wd mb (av ++ ad.drop m)) ∧ Hid (Keeps (fun q => q = mb) wz wd)) (fun i _ => nbl.length - (intOf i).toNat)
              case atStart => exact ⟨0, Nat.zero_le _, rfl, Lib.hid (by rw [List.drop_zero, ← HAD.out]; exact HMZ.out), Lib.hid (Keeps.refl _ _)⟩
              case round =>
                obtain ⟨m, hm, rfl, HMd, HKd⟩ := hrel
                have HDd := Lib.hid (show DSt We R mb (av ++ ad.drop m) wr from HZ.out.1.keep HE.out (HE.out.rlt HZ.out.1.size) (HKd.out.wide (fun q _ h => .inr (.inl h))) HMd.out)
                by_cases hml : m < nbl.length
                · obtain ⟨bU, oU, rfl, s0, ssz⟩ := str_cell (tStrs.mono _ _ _ _ (HMZ.out.memLe HKd.out) HZ.out.2.2.2.2) hml
                  have t0 : wr.cell? ⟨bU, oU + m, none⟩ = some (.string nbl[m]) := s0
                  have cA : wr.cell? ⟨ba, 0, none⟩ = some (.map (some mb)) := HDd.out.cell HE.out.rr.2.2.2.2.1 HE.out.ca
                  have hma : m < ad.length := by have := HNBL.out; rw [this, List.length_map] at hml; exact hml
                  have hsp : ad.drop m = (nbl[m], ad[m].2) :: ad.drop (m + 1) := by
                    rw [List.drop_eq_getElem_cons hma]
                    congr 1
                    have : nbl[m] = (ad[m]).1 := by simp only [HNBL.out, List.getElem_map]
                    rw [this]
                  have hmd := HMd.out
                  rw [hsp] at hmd
                  obtain ⟨w9, hd9, hm9, hg9⟩ := BMB.dropMid hmd ssz 0
                  have HM9 := Lib.hid hm9
                  have HK9 := Lib.hid (show Keeps (fun q => q = mb) wz w9 from HKd.out.trans ((grown_keeps hg9).wide (fun q _ e => by injection e)))
                  clear s0 hsp hmd hm9 hg9
                  generalize nbl[m] = nm at *
                  go_wp2
                  go_roundw
                  case rel => exact ⟨m + 1, by omega, by go_num, HM9, HK9⟩
                  case measure => simp [intOf]; omega
                · obtain rfl : m = nbl.length := by omega
                  have hda : ad.drop nbl.length = [] := by rw [HNBL.out, List.length_map, List.drop_length]
                  have HMF := Lib.hid (show BMB wr mb av from by have := HMd.out; rwa [hda, List.append_nil] at this)
                  have HDF := Lib.hid (show DSt We R mb av wr from by have := HDd.out; rwa [hda, List.append_nil] at this)
                  have HKF := Lib.hid (show Keeps (chgD N S mb W) W wr from HZ.out.2.1.trans (HKd.out.wide (fun q _ h => .inr (.inl h))))
                  have hBN : Below N wz wr := HKd.out.below (by have := HZ.out.1.size; have := HE.out.ge; omega) (fun q e => by have := HE.out.gm; omega)
                  have HBN := Lib.hid hBN
                  have HVF := Lib.hid (show wr.heap[va]? = some (.cells #[.string x.n, .string x.a, .string x.b] 25 (0, 0)) from by
                    refine (HKd.out.block va (Array.getElem?_eq_some_iff.1 HZ.out.2.2.2.1).1 (fun e => ?_)).trans HZ.out.2.2.2.1
                    subst e
                    obtain ⟨D, ⟨es, c, hh, _⟩, _⟩ := HMZ.out.1
                    rw [HZ.out.2.2.2.1] at hh; cases hh)
                  clear hBN hda HMd HDd
                  cases okv with
                  | true =>
                    have HJF := Lib.hid (show J (pre ++ (rows.take (k + 1)).flatMap g) wr from by
                      rcases HPZ.out with ⟨_, h⟩ | ⟨h, _⟩
                      · exact HJS.out _ _ _ h HBN.out
                      · cases h)
                    go_wp2
                    go_roundw
                    case rel => exact ⟨k + 1, by omega, by go_num, HJF, HDF, HKF, HVF⟩
                    case measure => simp [intOf]; omega
                  | false =>
                    have HOF := Lib.hid (show DOut N S mb av J Stop pre (ways (x :: rest) L av ls) W (.returned (.bool false)) wr from ⟨HKF.out, HMF.out, .inr ⟨rfl, by
                      rcases HPZ.out with ⟨h, _⟩ | ⟨_, p, z, q, h1, h2⟩
                      · cases h
                      · exact ⟨p, z, q, h1, HSS.out _ _ _ _ h2 HBN.out⟩⟩⟩)
                    go_wp2
                    go_ret
                    exact HOF.out
    · obtain rfl : k = rows.length := by omega
      have HD := Lib.hid (show DOut N S mb av J Stop pre (ways (x :: rest) L av ls) W (.returned (.bool true)) wr from ⟨HKk.out, HWk.out.at', .inl ⟨rfl, by rw [HWAYS.out]; have := HJk.out; rwa [List.take_length] at this⟩⟩)
      go_wp2
      go_ret
      exact HD.out
end Go.Proofs.YtafeaeaildfohaaGreatDoor
/- ring's matches: its iterator's contract; headed. -/
namespace Go.Proofs.YtafeaeaildfohaaGreatDoor
open Go.RowKit Go.Maps

theorem down_all (We : World) (N : Nat) (S R : Nat → Prop) (l bb bY ba bx bD mb ib n : Nat) (bv : Value) (bd L : List Fct) (f : ByteArray → Option Value) (he : DEnv We N S R l bb bY ba bx bD mb ib n bv bd L f) (hL : L.length ≤ 400)
    (J : List (Bnd × List Fct) → World → Prop) (Stop : List (Bnd × List Fct) → (Bnd × List Fct) → World → Prop) (xs : List (Bnd × List Fct)) (hJ : ∀ s A B, J s A → Below N A B → J s B) (hSt : ∀ s x A B, Stop s x A → Below N A B → Stop s x B)
    (hY : ∀ pre x post W1 vs, xs = pre ++ x :: post → J pre W1 → N ≤ W1.heap.size → EncWay x vs N W1 →
      YieldAt Fence.wide 0 Tryz.prog l vs W1 fun e W' => Keeps (roundF N S W1) W1 W' ∧ ((e = .returned (.bool true) ∧ J (pre ++ [x]) W') ∨ (e = .returned (.bool false) ∧ Stop pre x W'))) :
    ∀ rest, DownSpec We N S R bb bY ba bx bD mb bd L J Stop xs rest
  | [] => fun dn av ls lv pre post W hbd hls hxs hJ0 hW hl hav =>
    down_last We N S R l bb bY ba bx bD mb ib n bv bd L f he J Stop xs pre post hY av ls lv W (by rw [hls, hbd]; simp) (by rw [hxs]; simp [ways]) hJ0 hW (tFcts.mono _ _ _ _ (Mem.on_mono _ (fun _ h => h.1)) hl)
  | x :: rest => down_step We N S R l bb bY ba bx bD mb ib n bv bd L f he hL J Stop xs hJ hSt x rest (down_all We N S R l bb bY ba bx bD mb ib n bv bd L f he hL J Stop xs hJ hSt hY rest)
/-- What the iterator of matches stands on. -/
structure MEnv (w : World) (S : Nat → Prop) (bb bx ib n : Nat) (bv : Value) (bd L : List Fct) (f : ByteArray → Option Value) : Prop where
  cb : w.cell? ⟨bb, 0, none⟩ = some bv
  hb : tFcts.rv ((mem w).on S) [bv] bd
  cx : w.cell? ⟨bx, 0, none⟩ = some (.map (some ib))
  im : IM w ib n f
  row : ∀ k, tFcts.rv ((mem w).on S) [sliceOr (f k)] (byName L k)
  ss : S bb ∧ S bx ∧ S ib
  lt : ∀ k, S k → k < w.heap.size
  len : bd.length ≤ 3
theorem MEnv.below {w W : World} {S : Nat → Prop} {bb bx ib n : Nat} {bv : Value} {bd L : List Fct} {f : ByteArray → Option Value} (h : MEnv w S bb bx ib n bv bd L f) (hW : Below w.heap.size w W) : MEnv W S bb bx ib n bv bd L f := by
  have hm : ∀ {α : Type} {t : Ty α} {v : Value} {xs : List α}, (tSlice t).rv ((mem w).on S) [v] xs → (tSlice t).rv ((mem W).on S) [v] xs := fun {α t v xs} hv => (tSlice t).mono _ _ _ _ (fun b o u e => by
    obtain ⟨e1, e2⟩ := Mem.of_on e
    exact Mem.on_some (below_mem hW _ _ _ e2) e1) hv
  exact ⟨below_mem hW _ _ _ h.cb, hm h.hb, below_mem hW _ _ _ h.cx, h.im.at (hW.block _ (h.lt _ h.ss.2.2)), fun k => hm (h.row k), h.ss, fun k hk => Nat.lt_of_lt_of_le (h.lt k hk) hW.size, h.len⟩
set_option maxRecDepth 100000 in
set_option maxHeartbeats 8000000 in
theorem matches_gives (S : Nat → Prop) (bb bx ib n : Nat) (bv : Value) (bd L : List Fct) (f : ByteArray → Option Value) (w : World) (hE : MEnv w S bb bx ib n bv bd L f) (hL : L.length ≤ 400) :
    GivesM Tryz.prog 73 #[ptr0 bb, ptr0 bx] EncWay S (ways bd L [] []) w := by
  intro l J Stop W hW hJ hSt hY h0
  have hE := hE.below hW
  have hsn : ∀ k, S k → k < W.heap.size := hE.lt
  generalize hx : (((W.alloc (.cells #[.func (.yield l) #[] #[]] 111)).alloc (.map #[] 0)).alloc (.cells #[.map (some (W.heap.size + 1))] 82)).alloc
      (.cells #[.func (.func 74) #[] #[ptr0 bb, ptr0 W.heap.size, ptr0 (W.heap.size + 2), ptr0 bx, ptr0 (W.heap.size + 3)]] 62) = We
  have hs : We.heap.size = W.heap.size + 4 := by rw [← hx]; simp
  have hB : Below W.heap.size W We := by rw [← hx]; exact ((((Below.refl _ _).alloc (Nat.le_refl _) _).alloc (by simp) _).alloc (by simp <;> omega) _).alloc (by simp <;> omega) _
  have q0 : We.heap[W.heap.size]? = some (.cells #[.func (.yield l) #[] #[]] 111 (0, 0)) := by
    rw [← hx]
    exact (Below.heap_alloc _ _ _ (by simp <;> omega)).trans ((Below.heap_alloc _ _ _ (by simp <;> omega)).trans ((Below.heap_alloc _ _ _ (by simp <;> omega)).trans (heap_alloc_new W _)))
  have q1 : We.heap[W.heap.size + 1]? = some (.map #[] 0) := by
    rw [← hx]
    refine (Below.heap_alloc _ _ _ (by simp <;> omega)).trans ((Below.heap_alloc _ _ _ (by simp <;> omega)).trans ?_)
    have := heap_alloc_new (W.alloc (.cells #[.func (.yield l) #[] #[]] 111)) (.map #[] 0)
    rwa [World.size_alloc] at this
  have q2 : We.heap[W.heap.size + 2]? = some (.cells #[.map (some (W.heap.size + 1))] 82 (0, 0)) := by
    rw [← hx]
    refine (Below.heap_alloc _ _ _ (by simp <;> omega)).trans ?_
    have := heap_alloc_new ((W.alloc (.cells #[.func (.yield l) #[] #[]] 111)).alloc (.map #[] 0)) (.cells #[.map (some (W.heap.size + 1))] 82)
    rwa [World.size_alloc, World.size_alloc] at this
  have q3 : We.heap[W.heap.size + 3]? = some (.cells #[.func (.func 74) #[] #[ptr0 bb, ptr0 W.heap.size, ptr0 (W.heap.size + 2), ptr0 bx, ptr0 (W.heap.size + 3)]] 62 (0, 0)) := by
    rw [← hx]
    have := heap_alloc_new (((W.alloc (.cells #[.func (.yield l) #[] #[]] 111)).alloc (.map #[] 0)).alloc (.cells #[.map (some (W.heap.size + 1))] 82)) (.cells #[.func (.func 74) #[] #[ptr0 bb, ptr0 W.heap.size, ptr0 (W.heap.size + 2), ptr0 bx, ptr0 (W.heap.size + 3)]] 62)
    rwa [World.size_alloc, World.size_alloc, World.size_alloc] at this
  have hE2 := hE.below hB
  have hm : ∀ {α : Type} {t : Ty α} {v : Value} {xs : List α}, (tSlice t).rv ((mem We).on S) [v] xs → (tSlice t).rv ((mem We).on (fun k => S k ∨ k = W.heap.size ∨ k = W.heap.size + 2 ∨ k = W.heap.size + 3)) [v] xs := fun {α t v xs} hv => (tSlice t).mono _ _ _ _ (Mem.on_mono _ (fun _ h => .inl h)) hv
  have hd : DEnv We W.heap.size S (fun k => S k ∨ k = W.heap.size ∨ k = W.heap.size + 2 ∨ k = W.heap.size + 3) l bb W.heap.size (W.heap.size + 2) bx (W.heap.size + 3) (W.heap.size + 1) ib n bv bd L f :=
    ⟨hE2.cb, hm hE2.hb, hE2.cx, hE2.im, fun k => hm (hE2.row k), mem_cells q0 0, mem_cells q2 0, mem_cells q3 0, ⟨.inl hE.ss.1, .inl hE.ss.2.1, .inl hE.ss.2.2, .inr (.inl rfl), .inr (.inr (.inl rfl)), .inr (.inr (.inr rfl))⟩,
      fun k hk => by rcases hk with h | h | h | h; exact .inl ⟨h, hsn k h⟩; exact .inr ⟨by omega, by omega, by omega⟩; exact .inr ⟨by omega, by omega, by omega⟩; exact .inr ⟨by omega, by omega, by omega⟩, by omega, by omega, hE.len⟩
  have hst : DSt We (fun k => S k ∨ k = W.heap.size ∨ k = W.heap.size + 2 ∨ k = W.heap.size + 3) (W.heap.size + 1) [] We := by
    refine ⟨Nat.le_refl _, fun _ _ => rfl, ?_, List.nodup_nil⟩
    have h1 := MapOf.made (P := Tryz.prog) (k := 9) (lk := strKey) (vr := vStr) (W.alloc (.cells #[.func (.yield l) #[] #[]] 111))
    rw [World.size_alloc] at h1
    have h2 : BM ((W.alloc (.cells #[.func (.yield l) #[] #[]] 111)).alloc (.map #[] 0)) (W.heap.size + 1) 0 (fun _ => none) := h1
    exact h2.at (q1.trans (by have := heap_alloc_new (W.alloc (.cells #[.func (.yield l) #[] #[]] 111)) (.map #[] 0); rw [World.size_alloc] at this; exact this.symm))
  have HC := Lib.hid (down_all We W.heap.size S _ l bb W.heap.size (W.heap.size + 2) bx (W.heap.size + 3) (W.heap.size + 1) ib n bv bd L f hd hL J Stop (ways bd L [] []) hJ hSt hY bd [] [] [] (.slice none 0 0) [] [] We rfl rfl (by simp) (hJ _ _ _ h0 hB) hst (slice_nil _ _) (by simp))
  have HX := Lib.hid hx
  clear hd hst hE2 hm q0 q1 q2 q3 hB hs hx hE hY h0 hJ hSt hW hsn
  refine (callsIn_wide (n := 0)).2 ?_
  have hmm := @run_makeMap Tryz.prog
  show Calls Tryz.prog 73 #[.func (.yield l) #[] #[], ptr0 bb, ptr0 bx] W _
  go_enter Tryz.func73, Tryz.ntmps73
  go_wp2_with fail
  have HC2 := HC.out
  rw [← HX.out] at HC2
  refine Calls.mono HC2 ?_
  rintro e w6 ⟨-, -, h⟩
  have HF := Lib.hid (show J (ways bd L [] []) w6 ∨ ∃ pre x post, ways bd L [] [] = pre ++ x :: post ∧ Stop pre x w6 from by
    rcases h with ⟨_, h⟩ | ⟨_, p, x, q, h1, h2⟩
    · exact .inl h
    · exact .inr ⟨p, x, q, h1, h2⟩)
  have hv : ∃ b, e = .returned (.bool b) := by
    rcases h with ⟨h, _⟩ | ⟨h, _⟩
    · exact ⟨_, h⟩
    · exact ⟨_, h⟩
  obtain ⟨b, rfl⟩ := hv
  clear h HC HC2 HX
  go_wp2
  go_end0
  exact ⟨⟨_, rfl⟩, HF.out⟩
/-- (x index) matches(body): the iterator. -/
theorem matchesCall_any (ib : Nat) (bv : Value) (w : World) (a : Option Addr) (n c : Nat) (hv : bv = .slice a n c) :
    Calls Tryz.prog 52 #[.map (some ib), bv] w fun e w' =>
      e = .returned (.func (.func 73) #[] #[ptr0 (w.heap.size + 1), ptr0 w.heap.size]) ∧ w' = (w.alloc (.cells #[.map (some ib)] 77)).alloc (.cells #[.slice a n c] 26) := by
  subst hv
  go_enter Tryz.func52, Tryz.ntmps52
  go_wp2
  go_ret
  exact ⟨by simp, by simp⟩
/-- The fact that a rule gives for some values. -/
theorem headed_any (r : Rul) (bv : Value) (mb : Nat) (av : Bnd) (w : World) (hm : BMB w mb av) (ho : okF r.hd) (a : Option Addr) (n c : Nat) (hv : bv = .slice a n c) :
    Calls Tryz.prog 53 #[r.v bv, .map (some mb)] w fun e w' => e = .returned (headF r av).v ∧ Below w.heap.size w w' := by
  subst hv
  obtain ⟨⟨r1, r2, r3⟩, bd⟩ := r
  have HH := Lib.hid (show (headF ⟨⟨r1, r2, r3⟩, bd⟩ av).v = .agg #[.string r1, .string (strD (lkB av r2)), .string (strD (lkB av r3))] from rfl)
  generalize (headF ⟨⟨r1, r2, r3⟩, bd⟩ av).v = hv at HH ⊢
  have hlk : ∀ o1 o2, BMB ((w.alloc o1).alloc o2) mb av := fun o1 o2 => hm.at ((Below.heap_alloc _ _ _ (by have := MapOf.lt hm.1; simp; omega)).trans (Below.heap_alloc _ _ _ (MapOf.lt hm.1)))
  have l1 := fun o1 o2 => (hlk o1 o2).look ho.2.1
  have l2 := fun o1 o2 => (hlk o1 o2).look ho.2.2
  have HB := Lib.hid (show ∀ o1 o2, Below w.heap.size w ((w.alloc o1).alloc o2) from fun o1 o2 => ((Below.refl _ w).alloc (Nat.le_refl _) o1).alloc (by simp) o2)
  simp only at l1 l2
  clear hlk hm ho
  go_enter Tryz.func53, Tryz.ntmps53
  go_wp2_with fail
  exact bodyPost_ret (v := .agg #[.string r1, .string (strD (lkB av r2)), .string (strD (lkB av r3))]) (by simp [results, Tryz.results53, go_sem]) rfl ⟨by rw [HH.out], HB.out _ _⟩
end Go.Proofs.YtafeaeaildfohaaGreatDoor
/- What follows: closed, least, its rounds; plain. -/
namespace Go.Proofs.YtafeaeaildfohaaGreatDoor

theorem perm_of_nodup {l m : List Fct} (hl : l.Nodup) (hm : m.Nodup) (e : ∀ x, x ∈ l ↔ x ∈ m) : l.length = m.length := by
  induction l generalizing m with
  | nil => cases m with
    | nil => rfl
    | cons y m => exact absurd ((e y).2 List.mem_cons_self) (by simp)
  | cons x l ih =>
    have hx : x ∈ m := (e x).1 List.mem_cons_self
    rw [List.nodup_cons] at hl
    have := ih hl.2 (hm.erase x) (fun y => by
      rw [hm.mem_erase_iff]
      constructor
      · intro hy; exact ⟨fun e' => hl.1 (e' ▸ hy), (e y).1 (List.mem_cons_of_mem _ hy)⟩
      · rintro ⟨h1, h2⟩
        rcases List.mem_cons.1 ((e y).2 h2) with h | h
        · exact absurd h h1
        · exact h)
    rw [List.length_erase_of_mem hx] at this
    have h1 : 0 < m.length := List.length_pos_of_mem hx
    simp only [List.length_cons]
    omega
theorem srt_len {l : List Fct} (h : l.Nodup) : (srt l).length = l.length := perm_of_nodup (srt_asc l).nodup h (srt_mem l)
theorem nodup_sub {l m : List Fct} (hl : l.Nodup) (e : ∀ x ∈ l, x ∈ m) : l.length ≤ m.length := by
  induction l generalizing m with
  | nil => exact Nat.zero_le _
  | cons x l ih =>
    have hx : x ∈ m := e x List.mem_cons_self
    rw [List.nodup_cons] at hl
    have := ih (m := m.erase x) hl.2 (fun y hy => (List.mem_erase_of_ne (fun e' => by subst e'; exact hl.1 hy)).2 (e y (List.mem_cons_of_mem _ hy)))
    rw [List.length_erase_of_mem hx] at this
    have h1 : 0 < m.length := List.length_pos_of_mem hx
    simp only [List.length_cons]
    omega
theorem srt_len_le (l : List Fct) : (srt l).length ≤ l.length := nodup_sub (srt_asc l).nodup (fun x hx => (srt_mem l x).1 hx)
theorem keys_len (M : Rnds) : (keysR M).length = M.length := List.length_map ..
theorem keys_round (rules : List Rul) (k : Int) (M : Rnds) (x : Fct) : x ∈ keysR (roundR rules k M) ↔ x ∈ keysR M ∨ x ∈ headsAll rules (srt (keysR M)) := keys_addsR _ _ _ _
theorem round_nodup {rules : List Rul} {k : Int} {M : Rnds} (h : (keysR M).Nodup) : (keysR (roundR rules k M)).Nodup := addsR_nodup _ h
theorem round_len (rules : List Rul) (k : Int) (M : Rnds) : M.length ≤ (roundR rules k M).length := addsR_len _ _ _
theorem lkR_addR {k : Int} {M : Rnds} {f g : Fct} (h : g ∈ keysR M) : lkR (addR k M f) g = lkR M g := by
  unfold addR
  split
  · rfl
  · next hf => rw [lkR_snoc hf, if_neg (fun e => by subst e; exact hf h)]
theorem lkR_addsR {k : Int} {g : Fct} : ∀ (l : List Fct) {M : Rnds}, g ∈ keysR M → lkR (addsR k M l) g = lkR M g
  | [], _, _ => rfl
  | f :: l, M, h => by rw [addsR_cons, lkR_addsR l ((keys_addR k M f g).2 (.inl h)), lkR_addR h]
theorem lkR_none {M : Rnds} {f : Fct} (h : f ∉ keysR M) : lkR M f = none := by
  cases hl : lkR M f with
  | none => rfl
  | some a => exact absurd (lkR_some.1 (by rw [hl]; rfl)) h
theorem lkR_adds_new {k : Int} {g : Fct} : ∀ (l : List Fct) {M : Rnds}, g ∉ keysR M → g ∈ l → lkR (addsR k M l) g = some k
  | [], _, _, h => by cases h
  | f :: l, M, h, hg => by
    rw [addsR_cons]
    by_cases e : g = f
    · subst e
      have : addR k M g = M ++ [(g, k)] := by unfold addR; rw [if_neg h]
      rw [lkR_addsR l ((keys_addR k M g g).2 (.inr rfl)), this, lkR_snoc h, if_pos rfl]
    · exact lkR_adds_new l (fun h' => by rcases (keys_addR k M f g).1 h' with h' | h'; exact h h'; exact e h') (by rcases List.mem_cons.1 hg with h' | h'; exact absurd h' e; exact h')
theorem lkR_round {rules : List Rul} {k : Int} {M : Rnds} {g : Fct} : lkR (roundR rules k M) g = if g ∈ keysR M then lkR M g else if g ∈ headsAll rules (srt (keysR M)) then some k else none := by
  split
  · next h => exact lkR_addsR _ h
  · next h =>
    split
    · next h' => exact lkR_adds_new _ h h'
    · next h' =>
      refine lkR_none (fun h2 => ?_)
      rcases (keys_round _ _ _ _).1 h2 with h2 | h2
      · exact h h2
      · exact h' h2

/-- What has been reached by rounds from a list: k rounds are done. -/
structure Run (rules : List Rul) (l : List Fct) (k : Int) (M : Rnds) : Prop where
  nd : (keysR M).Nodup
  ge : ∀ x ∈ l, x ∈ keysR M
  src : ∀ x ∈ keysR M, x ∈ l ∨ x ∈ headsAll rules (srt (keysR M))
  least : ∀ C : List Fct, (∀ x ∈ l, x ∈ C) → (∀ x ∈ headsAll rules C, x ∈ C) → ∀ x ∈ keysR M, x ∈ C
  lt : ∀ x i, lkR M x = some i → 0 ≤ i ∧ i < k
theorem Run.start (rules : List Rul) (l : List Fct) : Run rules l 1 (startR l) := by
  refine ⟨start_nodup l, fun x hx => (keys_start l x).2 hx, fun x hx => .inl ((keys_start l x).1 hx), fun C h1 _ x hx => h1 x ((keys_start l x).1 hx), fun x i h => ?_⟩
  have hx : x ∈ l := (keys_start l x).1 (lkR_some.1 (by rw [h]; rfl))
  have := lkR_adds_new (k := 0) (M := []) l (g := x) (by simp [keysR]) hx
  rw [show lkR (startR l) x = lkR (addsR 0 [] l) x from rfl, this] at h
  cases h; omega
theorem Run.step {rules : List Rul} {l : List Fct} {k : Int} {M : Rnds} (h : Run rules l k M) (hk : 0 ≤ k) : Run rules l (k + 1) (roundR rules k M) := by
  have hsub : ∀ x ∈ srt (keysR M), x ∈ srt (keysR (roundR rules k M)) := fun x hx => (srt_mem _ _).2 ((keys_round _ _ _ _).2 (.inl ((srt_mem _ _).1 hx)))
  refine ⟨round_nodup h.nd, fun x hx => (keys_round _ _ _ _).2 (.inl (h.ge x hx)), fun x hx => ?_, fun C h1 h2 x hx => ?_, fun x i hi => ?_⟩
  · rcases (keys_round _ _ _ _).1 hx with hx | hx
    · rcases h.src x hx with hx | hx
      · exact .inl hx
      · exact .inr (headsAll_mono hsub rules x hx)
    · exact .inr (headsAll_mono hsub rules x hx)
  · rcases (keys_round _ _ _ _).1 hx with hx | hx
    · exact h.least C h1 h2 x hx
    · exact h2 x (headsAll_mono (fun y hy => h.least C h1 h2 y ((srt_mem _ _).1 hy)) rules x hx)
  · rw [lkR_round] at hi
    split at hi
    · have := h.lt x i hi; omega
    · split at hi
      · cases hi; omega
      · cases hi
/-- What follows, when all rounds are done. -/
structure Fin' (rules : List Rul) (l : List Fct) (M : Rnds) : Prop where
  nd : (keysR M).Nodup
  ge : ∀ x ∈ l, x ∈ keysR M
  src : ∀ x ∈ keysR M, x ∈ l ∨ x ∈ headsAll rules (srt (keysR M))
  least : ∀ C : List Fct, (∀ x ∈ l, x ∈ C) → (∀ x ∈ headsAll rules C, x ∈ C) → ∀ x ∈ keysR M, x ∈ C
  closed : ∀ x ∈ headsAll rules (srt (keysR M)), x ∈ keysR M
  le : M.length ≤ 400
  pos : ∀ x i, lkR M x = some i → 0 ≤ i
theorem runR_fin {rules : List Rul} {l : List Fct} : ∀ (n : Nat) (k : Int) (M R : Rnds), Run rules l k M → 0 ≤ k → runR rules n k M = some R → Fin' rules l R
  | 0, _, _, _, _, _, h => by cases h
  | n + 1, k, M, R, hM, hk, h => by
    unfold runR at h
    split at h
    · cases h
    · split at h
      · next h1 h2 =>
        cases h
        refine ⟨hM.nd, hM.ge, hM.src, hM.least, fun x hx => ?_, by omega, fun x i hi => (hM.lt x i hi).1⟩
        have h3 : roundR rules k M = M := addsR_same _ h2
        have := (keys_round rules k M x).2 (.inr hx)
        rwa [h3] at this
      · exact runR_fin n (k + 1) _ R (hM.step hk) (by omega) h
theorem follow_fin {rules : List Rul} {l : List Fct} {M : Rnds} (h : followR rules l = some M) : Fin' rules l M := runR_fin 500 1 _ M (Run.start rules l) (by omega) h
/-- Within a closed list of at most 400 the rounds come to an end. -/
theorem runR_some {rules : List Rul} {l : List Fct} {C : List Fct} (h1 : ∀ x ∈ l, x ∈ C) (h2 : ∀ x ∈ headsAll rules C, x ∈ C) (h3 : C.length ≤ 400) : ∀ (n : Nat) (k : Int) (M : Rnds), Run rules l k M → 0 ≤ k → 401 ≤ n + M.length → (runR rules n k M).isSome = true
  | 0, k, M, hM, _, hn => by
    have := nodup_sub hM.nd (hM.least C h1 h2)
    rw [keys_len] at this
    omega
  | n + 1, k, M, hM, hk, hn => by
    have hs := hM.step hk
    have := nodup_sub hs.nd (hs.least C h1 h2)
    rw [keys_len] at this
    have hl := round_len rules k M
    unfold runR
    rw [if_neg (by omega)]
    split
    · rfl
    · exact runR_some h1 h2 h3 n (k + 1) _ hs (by omega) (by omega)
theorem follow_some {rules : List Rul} {l : List Fct} {C : List Fct} (h1 : ∀ x ∈ l, x ∈ C) (h2 : ∀ x ∈ headsAll rules C, x ∈ C) (h3 : C.length ≤ 400) : ∃ M, followR rules l = some M :=
  Option.isSome_iff_exists.1 (runR_some h1 h2 h3 500 1 _ (Run.start rules l) (by omega) (by omega))
/-- What follows of fewer facts follows. -/
theorem follow_sub {rules : List Rul} {l m : List Fct} {M : Rnds} (h : followR rules l = some M) (hs : ∀ x ∈ m, x ∈ l) : ∃ R, followR rules m = some R ∧ ∀ x ∈ keysR R, x ∈ keysR M := by
  have hf := follow_fin h
  have hc : ∀ x ∈ headsAll rules (keysR M), x ∈ keysR M := fun x hx => hf.closed x (headsAll_mono (fun y hy => (srt_mem _ _).2 hy) rules x hx)
  have h1 : ∀ x ∈ m, x ∈ keysR M := fun x hx => hf.ge x (hs x hx)
  obtain ⟨R, hR⟩ := follow_some h1 hc (by rw [keys_len]; exact hf.le)
  exact ⟨R, hR, (follow_fin hR).least _ h1 hc⟩
/-- Following twice is once. -/
theorem follow_twice {rules : List Rul} {l : List Fct} {M : Rnds} (h : followR rules l = some M) : ∃ R, followR rules (srt (keysR M)) = some R ∧ srt (keysR R) = srt (keysR M) := by
  have hf := follow_fin h
  obtain ⟨R, hR⟩ := follow_some (l := srt (keysR M)) (C := srt (keysR M)) (rules := rules) (fun _ h => h) (fun x hx => (srt_mem _ _).2 (hf.closed x hx)) (by rw [srt_len hf.nd, keys_len]; exact hf.le)
  refine ⟨R, hR, srt_congr (fun x => ⟨fun hx => ?_, fun hx => ?_⟩)⟩
  · exact (srt_mem _ _).1 ((follow_fin hR).least _ (fun _ h => h) (fun x hx => (srt_mem _ _).2 (hf.closed x hx)) x hx)
  · exact (follow_fin hR).ge x ((srt_mem _ _).2 hx)

/-- The new facts of a round, ascending. -/
def freshR (rules : List Rul) (M : Rnds) : List Fct := srt ((headsAll rules (srt (keysR M))).filter fun x => x ∉ keysR M)
theorem fresh_mem {rules : List Rul} {M : Rnds} {x : Fct} : x ∈ freshR rules M ↔ x ∈ headsAll rules (srt (keysR M)) ∧ x ∉ keysR M := by
  unfold freshR; rw [srt_mem, List.mem_filter]; simp
theorem fresh_len {rules : List Rul} {k : Int} {M : Rnds} (h : (keysR M).Nodup) : (roundR rules k M).length = M.length + (freshR rules M).length := by
  have h1 : (keysR M ++ freshR rules M).Nodup := List.nodup_append.2 ⟨h, (srt_asc _).nodup, fun a ha b hb e => by subst e; exact (fresh_mem.1 hb).2 ha⟩
  have := perm_of_nodup (round_nodup (rules := rules) (k := k) h) h1 (fun x => by
    rw [keys_round, List.mem_append, fresh_mem]
    by_cases hx : x ∈ keysR M <;> simp [hx])
  rw [keys_len, List.length_append, keys_len] at this
  exact this
theorem fresh_srt (rules : List Rul) (k : Int) (M : Rnds) : (freshR rules M).foldl putS (srt (keysR M)) = srt (keysR (roundR rules k M)) := by
  refine (foldl_putS_asc _ _ (srt_asc _)).unique (srt_asc _) (fun x => ?_)
  rw [foldl_putS_mem, srt_mem, srt_mem, keys_round, fresh_mem]
  by_cases hx : x ∈ keysR M <;> simp [hx]
/-- The facts of the rounds, one list for each. -/
structure Outs (k : Int) (M : Rnds) (out : List (List Fct)) : Prop where
  len : (out.length : Int) = k
  at' : ∀ (i : Nat) (h : i < out.length) (x : Fct), x ∈ out[i] ↔ lkR M x = some (i : Int)
theorem Outs.start (l : List Fct) : Outs 1 (startR l) [srt l] := by
  refine ⟨rfl, fun i h x => ?_⟩
  have hi : i = 0 := by simp at h; exact h
  subst hi
  simp only [List.getElem_cons_zero, srt_mem]
  constructor
  · intro hx; exact lkR_adds_new (k := 0) (M := []) l (by simp [keysR]) hx
  · intro hx; exact (keys_start l x).1 (lkR_some.1 (by rw [hx]; rfl))
theorem Outs.step {rules : List Rul} {l : List Fct} {k : Int} {M : Rnds} {out : List (List Fct)} (h : Outs k M out) (hr : Run rules l k M) : Outs (k + 1) (roundR rules k M) (out ++ [freshR rules M]) := by
  refine ⟨by simp; have := h.len; omega, fun i hi x => ?_⟩
  rw [lkR_round]
  by_cases hlt : i < out.length
  · rw [List.getElem_append_left hlt, h.at' i hlt]
    split
    · rfl
    · next hx =>
      rw [lkR_none hx]
      split
      · constructor
        · intro e; cases e
        · intro e; injection e with e; have := h.len; omega
      · rfl
  · have hi2 : i = out.length := by simp at hi; omega
    subst hi2
    rw [List.getElem_append_right (Nat.le_refl _)]
    simp only [Nat.sub_self, List.getElem_cons_zero, fresh_mem]
    split
    · next hx =>
      constructor
      · intro hx'; exact absurd hx hx'.2
      · intro e; have := hr.lt x _ e; have := h.len; omega
    · next hx =>
      split
      · next hx' => simp [hx', hx, h.len]
      · next hx' =>
        constructor
        · intro e; exact absurd e.1 hx'
        · intro e; cases e
/-- The first round that has a fact. -/
def roundOf : List (List Fct) → Fct → Int → Int
  | [], _, _ => -1
  | l :: out, x, i => if x ∈ l then i else roundOf out x (i + 1)
theorem roundOf_at : ∀ (out : List (List Fct)) (x : Fct) (i : Int) (j : Nat) (h : j < out.length), x ∈ out[j] → (∀ j', (h' : j' < out.length) → x ∈ out[j'] → j' = j) → roundOf out x i = i + j
  | l :: out, x, i, 0, _, hx, _ => by simp only [List.getElem_cons_zero] at hx; unfold roundOf; rw [if_pos hx]; simp
  | l :: out, x, i, j + 1, h, hx, hu => by
    have h0 : x ∉ l := fun e => by have := hu 0 (by simp) (by simpa using e); omega
    unfold roundOf
    rw [if_neg h0, roundOf_at out x (i + 1) j (by simpa using h) (by simpa using hx) (fun j' h' hx' => by have := hu (j' + 1) (by simpa using h') (by simpa using hx'); omega)]
    omega
theorem roundOf_none : ∀ (out : List (List Fct)) (x : Fct) (i : Int), (∀ j, (h : j < out.length) → x ∉ out[j]) → roundOf out x i = -1
  | [], _, _, _ => rfl
  | l :: out, x, i, h => by
    unfold roundOf
    rw [if_neg (by have := h 0 (by simp); simpa using this)]
    exact roundOf_none out x (i + 1) (fun j hj => by have := h (j + 1) (by simpa using hj); simpa using this)
theorem Outs.round {k : Int} {M : Rnds} {out : List (List Fct)} (h : Outs k M out) (hr : ∀ x i, lkR M x = some i → 0 ≤ i ∧ i < k) (x : Fct) : roundOf out x 0 = match lkR M x with | some i => i | none => -1 := by
  cases hl : lkR M x with
  | none => exact roundOf_none _ _ _ (fun j hj hx => by rw [h.at' j hj x, hl] at hx; cases hx)
  | some i =>
    have := hr x i hl
    obtain ⟨j, rfl⟩ := Int.eq_ofNat_of_zero_le this.1
    have hj : j < out.length := by have := h.len; omega
    rw [roundOf_at out x 0 j hj ((h.at' j hj x).2 hl) (fun j' h' hx' => by
      have := (h.at' j' h' x).1 hx'
      rw [hl] at this
      injection this with this
      omega)]
    simp
end Go.Proofs.YtafeaeaildfohaaGreatDoor
/- What ring.follow has at hand: the map of the rounds, the results' cells, the marks of its ranges. -/
namespace Go.Proofs.YtafeaeaildfohaaGreatDoor
open Go.RowKit Go.Maps

theorem lkF_strF {x : Fct} (hx : okF x) : lkF x = .string (keyBytes [.string x.n.data.toList, .string x.a.data.toList, .string x.b.data.toList]) := by unfold lkF; rw [if_pos hx]
theorem FM.exactR {W : World} {b n : Nat} {M : Rnds} (h : FM W b n (lkR M)) (hn : (keysR M).Nodup) (ho : ∀ x ∈ keysR M, okF x) : FM W b M.length (lkR M) := by
  have := MapOf.exact h keyF (keysR M) hn (fun x => lkR_some.symm) (fun x y hx hy e => lkF_inj (ho y hy) x e) (fun v l hv => by
    obtain ⟨x, _, rfl, hx⟩ := keyOf_fct_inv hv
    exact ⟨⟨x, rfl⟩, _, lkF_strF hx⟩)
  rwa [keys_len] at this
theorem FM.size {W : World} {b n : Nat} {M : Rnds} (h : FM W b n (lkR M)) (hn : (keysR M).Nodup) (ho : ∀ x ∈ keysR M, okF x) {D : DataW Value} (hown : W.ownsMap Tryz.prog 43 rawE b n D) (hs : MapSays lkF vInt (mem W) D (lkR M)) : Maps.size D = M.length := by
  have := size_keys hown hs keyF (keysR M) hn (fun x => lkR_some.symm) (fun x y hx hy e => lkF_inj (ho y hy) x e) (fun v l hv => by
    obtain ⟨x, _, rfl, hx⟩ := keyOf_fct_inv hv
    exact ⟨⟨x, rfl⟩, _, lkF_strF hx⟩)
  rwa [keys_len] at this
theorem lkR_put {M : Rnds} {f : Fct} (hf : f ∉ keysR M) (k : Int) : putAt (lkR M) f k = lkR (M ++ [(f, k)]) := by
  funext g
  rw [lkR_snoc hf]
  by_cases e : g = f
  · subst e; rw [putAt_same, if_pos rfl]
  · rw [putAt_other _ _ e, if_neg e]
/-- A store of a fact's round: whether it was there or not, at the start (all rounds are 0). -/
theorem FM.put0 {W : World} {b : Nat} {M : Rnds} (h : FM W b M.length (lkR M)) (hn : (keysR M).Nodup) (ho : ∀ x ∈ keysR M, okF x) (hl : M.length ≤ 1000000000) {x : Fct} (hx : okF x) (h0 : ∀ y i, lkR M y = some i → i = 0) :
    ∃ W', (Instr.mapUpdate 63 (.map (some b)) x.v (.int .i64 0)).run Tryz.prog W = .ok () W' ∧ FM W' b (addR 0 M x).length (lkR (addR 0 M x)) ∧ W.grownBy W' (some b) := by
  obtain ⟨W', h1, h2, h3⟩ := h.put (by unfold maxLen; omega) hx 0 (by unfold inI64; omega)
  refine ⟨W', h1, ?_, h3⟩
  refine FM.exactR (n := M.length + 1) ?_ (addR_nodup hn x) (fun y hy => by rcases (keys_addR 0 M x y).1 hy with e | e; exact ho y e; subst e; exact hx)
  have : putAt (lkR M) x 0 = lkR (addR 0 M x) := by
    unfold addR
    split
    · next hm =>
      funext g
      by_cases e : g = x
      · subst e
        rw [putAt_same]
        obtain ⟨i, hi⟩ := Option.isSome_iff_exists.1 (lkR_some.2 hm)
        rw [hi, h0 g i hi]
      · rw [putAt_other _ _ e]
    · next hm => exact lkR_put hm 0
  rw [← this]; exact h2
theorem FM.putN {W : World} {b : Nat} {M : Rnds} (h : FM W b M.length (lkR M)) (hn : (keysR M).Nodup) (ho : ∀ x ∈ keysR M, okF x) (hl : M.length ≤ 1000) {x : Fct} (hx : okF x) (hm : x ∉ keysR M) (k : Int) (hk : inI64 k) :
    ∃ W', (Instr.mapUpdate 63 (.map (some b)) x.v (.int .i64 k)).run Tryz.prog W = .ok () W' ∧ FM W' b (M ++ [(x, k)]).length (lkR (M ++ [(x, k)])) ∧ W.grownBy W' (some b) := by
  obtain ⟨W', h1, h2, h3⟩ := h.put (by unfold maxLen; omega) hx k hk
  rw [lkR_put hm] at h2
  exact ⟨W', h1, FM.exactR h2 (by
    rw [show keysR (M ++ [(x, k)]) = keysR M ++ [x] by simp [keysR]]
    exact List.nodup_append.2 ⟨hn, by simp, fun a ha c hc e => by simp at hc; subst hc; subst e; exact hm ha⟩) (fun y hy => by
    rw [show keysR (M ++ [(x, k)]) = keysR M ++ [x] by simp [keysR]] at hy
    rcases List.mem_append.1 hy with e | e
    · exact ho y e
    · simp at e; subst e; exact hx), h3⟩
/-- The values of variables are texts of facts. -/
theorem ways_ok {L : List Fct} (hL : ∀ x ∈ L, okF x) : ∀ (bd : List Fct) (av : Bnd) (l : List Fct), (∀ p ∈ av, p.2.size ≤ maxLen) → ∀ w ∈ ways bd L av l, ∀ p ∈ w.1, p.2.size ≤ maxLen
  | [], av, l, ha, w, hw, p, hp => by simp [ways] at hw; subst hw; exact ha p hp
  | x :: bd, av, l, ha, w, hw, p, hp => by
    unfold ways at hw
    obtain ⟨f, hf, hw⟩ := List.mem_flatMap.1 hw
    split at hw
    · have hb1 : ∀ (bs : Bnd) (n v : ByteArray) (cs : Bnd), (∀ p ∈ bs, p.2.size ≤ maxLen) → v.size ≤ maxLen → bind1 bs n v = some cs → ∀ p ∈ cs, p.2.size ≤ maxLen := by
        intro bs n v cs hbs hv e q hq
        unfold bind1 at e
        split at e
        · split at e
          · cases e; exact hbs q hq
          · cases e
        · cases e
          rcases List.mem_append.1 hq with hq | hq
          · exact hbs q hq
          · simp at hq; subst hq; exact hv
      cases hb : bindF av x f with
      | none => rw [hb] at hw; cases hw
      | some bs =>
        rw [hb] at hw
        refine ways_ok hL bd bs _ (fun q hq => ?_) w hw p hp
        unfold bindF at hb
        cases h1 : bind1 av x.a f.a with
        | none => rw [h1] at hb; cases hb
        | some cs =>
          rw [h1] at hb
          exact hb1 cs _ _ bs (hb1 av _ _ cs ha (hL f hf).2.1 h1) (hL f hf).2.2 hb q hq
    · cases hw
theorem lkB_ok {av : Bnd} (ha : ∀ p ∈ av, p.2.size ≤ maxLen) (k : ByteArray) : (strD (lkB av k)).size ≤ maxLen := by
  induction av with
  | nil => simp only [lkB, strD]; unfold maxLen; decide
  | cons p av ih =>
    simp only [lkB]
    split
    · exact ha p List.mem_cons_self
    · exact ih (fun q hq => ha q (List.mem_cons_of_mem _ hq))
theorem headF_ok {r : Rul} {L : List Fct} (hr : okF r.hd) (hL : ∀ x ∈ L, okF x) {w : Bnd × List Fct} (hw : w ∈ ways r.bd L [] []) : okF (headF r w.1) :=
  ⟨hr.1, lkB_ok (ways_ok hL r.bd [] [] (by simp) w hw) _, lkB_ok (ways_ok hL r.bd [] [] (by simp) w hw) _⟩
/-- The marks of ranges that have ended. -/
def Marks (base : Nat) (ds : List Deferred) (w : World) : Prop :=
  ∃ Ds : List Nat, ds = Ds.map (fun D => { target := .collected D, args := #[] }) ∧ Ds.Nodup ∧ ∀ D ∈ Ds, base ≤ D ∧ w.heap[D]? = some (.deferred (some []))
theorem Marks.nil (base : Nat) (w : World) : Marks base [] w := ⟨[], rfl, List.nodup_nil, by simp⟩
theorem Marks.keeps {base : Nat} {ds : List Deferred} {w w' : World} {F : Nat → Prop} (h : Marks base ds w) (hk : Keeps F w w') (hF : ∀ q o, F q → w.heap[q]? = some o → o ≠ .deferred (some [])) : Marks base ds w' := by
  obtain ⟨Ds, e, hn, hd⟩ := h
  exact ⟨Ds, e, hn, fun D hD => ⟨(hd D hD).1, (hk.block D (Array.getElem?_eq_some_iff.1 (hd D hD).2).1 (fun hf => hF D _ hf (hd D hD).2 rfl)).trans (hd D hD).2⟩⟩
theorem Marks.cons {base : Nat} {ds : List Deferred} {w : World} {D n : Nat} (h : Marks base ds w) (hb : base ≤ D) (hD : w.heap[D]? = some (.deferred (some []))) (hlt : ∀ d ∈ ds, ∀ E, d.target = .collected E → E < n) (hn : n ≤ D) : Marks base ({ target := .collected D, args := #[] } :: ds) w := by
  obtain ⟨Ds, e, hnd, hd⟩ := h
  refine ⟨D :: Ds, by rw [e]; rfl, List.nodup_cons.2 ⟨fun hm => ?_, hnd⟩, fun E hE => ?_⟩
  · have := hlt { target := .collected D, args := #[] } (by rw [e]; exact List.mem_map.2 ⟨D, hm, rfl⟩) D rfl
    omega
  · rcases List.mem_cons.1 hE with h | h
    · subst h; exact ⟨hb, hD⟩
    · exact hd E h
theorem Marks.lt {base : Nat} {ds : List Deferred} {w : World} (h : Marks base ds w) : ∀ d ∈ ds, ∀ E, d.target = .collected E → E < w.heap.size := by
  obtain ⟨Ds, e, hn, hd⟩ := h
  intro d hd' E hE
  rw [e] at hd'
  obtain ⟨D, hD, rfl⟩ := List.mem_map.1 hd'
  injection hE with hE
  subst hE
  exact (Array.getElem?_eq_some_iff.1 (hd D hD).2).1
theorem leaves_marks {P : Program} {fn : Func} {tm : Array Value} {R : Ending → World → Prop} {v : Value} : ∀ (Ds : List Nat) (W : World), Ds.Nodup → (∀ D ∈ Ds, W.heap[D]? = some (.deferred (some []))) →
    (∀ WF, Keeps (fun k => k ∈ Ds) W WF → (results fn tm).run P WF = .ok v WF ∧ R (.returned v) WF) → LeavesInM Fence.wide 0 P fn tm R (Ds.map (fun D => { target := .collected D, args := #[] })) .returning W
  | [], W, _, _, h => ⟨v, (h W (Keeps.refl _ _)).1, (h W (Keeps.refl _ _)).2⟩
  | D :: Ds, W, hn, hd, h => by
    rw [List.nodup_cons] at hn
    refine ⟨by simp, .inl ⟨D, _, rfl, run_takeDeferred (hd D List.mem_cons_self), ?_⟩⟩
    refine leaves_marks Ds _ hn.2 (fun E hE => (World.putObj_heap_other (fun e => by subst e; exact hn.1 hE)).trans (hd E (List.mem_cons_of_mem _ hE))) (fun WF hk => h WF ?_)
    exact (keeps_putM (F := fun k => k ∈ D :: Ds) List.mem_cons_self).trans (hk.wide (fun q _ e => List.mem_cons_of_mem _ e))
/-- The world of follow: the results, the map, its variable. -/
structure FSt (W wr : World) (M : Rnds) : Prop where
  r4 : wr.heap[W.heap.size]? = some (.cells #[.map none] 63 (0, 0))
  r5 : wr.heap[W.heap.size + 1]? = some (.cells #[.int .i64 0] 31 (0, 0))
  mm : FM wr (W.heap.size + 2) M.length (lkR M)
  c6 : wr.heap[W.heap.size + 3]? = some (.cells #[.map (some (W.heap.size + 2))] 63 (0, 0))
  bl : Below W.heap.size W wr
  nd : (keysR M).Nodup
  ok : ∀ x ∈ keysR M, okF x
theorem FSt.lt {W wr : World} {M : Rnds} (h : FSt W wr M) : W.heap.size + 4 ≤ wr.heap.size := (Array.getElem?_eq_some_iff.1 h.c6).1
theorem FSt.keeps {W wr w' : World} {M : Rnds} {F : Nat → Prop} (h : FSt W wr M) (hk : Keeps F wr w') (hF : ∀ q, F q → W.heap.size + 4 ≤ q) : FSt W w' M := by
  have hl := h.lt
  have hb : ∀ q, q < W.heap.size + 4 → w'.heap[q]? = wr.heap[q]? := fun q hq => hk.block q (by omega) (fun e => by have := hF q e; omega)
  exact ⟨(hb _ (by omega)).trans h.r4, (hb _ (by omega)).trans h.r5, h.mm.at (hb _ (by omega)), (hb _ (by omega)).trans h.c6, h.bl.trans (hk.below (B := W.heap.size) (by omega) (fun q e => by have := hF q e; omega)), h.nd, h.ok⟩
end Go.Proofs.YtafeaeaildfohaaGreatDoor
