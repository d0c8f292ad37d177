/- Part 1 of the texts that the law's proof stands on, merged. -/
import Derived.Maps.Views
import Derived.Deep.AppendSrc
import Derived.Deep.RegionHeld3
import Derived.Test.YtjenfhkikbndmaaSn00
set_option linter.unusedVariables false
set_option linter.unusedSimpArgs false
/- Maps with numbers as keys, for elements of any reading; readings seen through a function (for chapter 14). -/
namespace Go.Proofs.Ytjenfhkikbndmaa
open Go.RowKit Go.Maps

@[reducible] def ptrS (a : Nat) : Value := .pointer (some ⟨a, 0, none⟩)
def keyI (n : Int) : Lit := .int .i64 n
theorem keyI_inj (x y : Int) (h : keyI x = keyI y) : x = y := by simpa [keyI] using h
theorem keyOfI {n : Int} (h : inI64 n) : keyOf Try.prog 3 (.int .i64 n) = some (keyI n) := keyOf_int_mk Try.underlying3 (by have := h.1; have := h.2; unfold inI64 at h; simp [Lit.wf, IntKind.min, IntKind.max, IntKind.signed, IntKind.bits]; omega)
theorem keyedI : Keyed Try.prog 3 := int_keyed Try.underlying3
@[reducible] def IMap {α : Type} (vr : VR α) (W : World) (b n : Nat) (f : Int → Option α) : Prop := MapOf Try.prog 3 keyI vr W b n f
open Classical in
noncomputable def lessAt {κ α : Type} (f : κ → Option α) (x : κ) : κ → Option α := fun y => if y = x then none else f y
theorem lessAt_same {κ α : Type} (f : κ → Option α) (x : κ) : lessAt f x x = none := by simp [lessAt]
theorem lessAt_other {κ α : Type} (f : κ → Option α) {x y : κ} (h : y ≠ x) : lessAt f x y = f y := by simp [lessAt, h]
section
variable {α β : Type} {vr : VR α} {W W' : World} {b n : Nat} {f : Int → Option α}
theorem IMap.obj (h : IMap vr W b n f) : ∃ es c, W.heap[b]? = some (.map es c) := by
  obtain ⟨D, ⟨es, clock, hh, r⟩, g⟩ := h
  exact ⟨es, clock, hh⟩
/-- The same map in another world, its elements read otherwise. -/
theorem IMap.re (h : IMap vr W b n f) (hb : W'.heap[b]? = W.heap[b]?) {vr' : VR β} {f' : Int → Option β} (hn : ∀ k, f k = none → f' k = none)
    (hv : ∀ k x, f k = some x → ∃ y, f' k = some y ∧ ∀ v, vr.rel (mem W) v x → vr'.rel (mem W') v y) : IMap vr' W' b n f' := by
  obtain ⟨D, ⟨es, clock, hh, r⟩, h1, h2, h3⟩ := h
  refine ⟨D, ⟨es, clock, by rw [hb]; exact hh, r⟩, fun x hx => ?_, fun x a hx => ?_, h3⟩
  · cases hf : f x with
    | none => exact h1 x hf
    | some y => obtain ⟨z, hz, -⟩ := hv x y hf; rw [hz] at hx; cases hx
  · cases hf : f x with
    | none => rw [hn x hf] at hx; cases hx
    | some y =>
      obtain ⟨z, hz, hr⟩ := hv x y hf
      rw [hz] at hx; cases hx
      obtain ⟨g, v, g1, g2⟩ := h2 x y hf
      exact ⟨g, v, g1, hr v g2⟩
theorem IMap.lookOk {T e : TypeId} (ht : Try.prog.underlying T = some (.map 3 e)) (h : IMap vr W b n f) {z : Value} (hz : (zeroValue e).run Try.prog W = .ok z W) {k : Int} (hk : inI64 k) :
    ∃ v, (Instr.lookup T (.map (some b)) (.int .i64 k) true).run Try.prog W = .ok (.tuple #[v, .bool (f k).isSome]) W ∧ (f k = none → v = z) ∧ (∀ c, f k = some c → vr.rel (mem W) v c) := by
  obtain ⟨D, hown, h1, h2, _⟩ := h
  obtain ⟨v, ps, hrun, hv⟩ := hown.look_ok keyedI ht hz (zd := .held z) (zp := []) rfl (keyOfI hk)
  have hs : Maps.has D (keyI k) = (f k).isSome := by
    cases hf : f k with
    | none => exact h1 k hf
    | some c => exact (h2 k c hf).1
  rw [hs] at hrun
  simp only [rawE, Option.some.injEq, Prod.mk.injEq] at hv
  refine ⟨v, hrun, fun e => ?_, fun c e => ?_⟩
  · have := hv.1
    rw [atKey_of_not_has (h1 k e)] at this
    injection this
  · obtain ⟨_, u, g1, g2⟩ := h2 k c e
    have := hv.1
    rw [g1] at this
    injection this with this
    rw [this]; exact g2
theorem IMap.put {T e : TypeId} (ht : Try.prog.underlying T = some (.map 3 e)) (h : IMap vr W b n f) (hn : n < maxLen) {k : Int} (hk : inI64 k) (v : Value) (x : α) (hv : vr.rel (mem W) v x) :
    ∃ W', (Instr.mapUpdate T (.map (some b)) (.int .i64 k) v).run Try.prog W = .ok () W' ∧ IMap vr W' b (n + 1) (putAt f k x) ∧ W.grownBy W' (some b) := by
  obtain ⟨D, hown, hs⟩ := h
  obtain ⟨W', hrun, ho, hgr⟩ := hown.update keyedI ht hn (keyOfI hk) (R := rawE) (val := v) (d := .held v) (ps := []) rfl
  have hle := grown_mem hown hgr
  exact ⟨W', hrun, ⟨_, ho, hs.put hle hown.isMap keyI_inj (keyedI.key (keyOfI hk)) (vr.mono _ _ _ _ hle hv)⟩, hgr⟩
theorem turned_grownS {w w' : World} {b : Nat} (h : w.mapTurned w' b) : w.grownBy w' (some b) := by
  obtain ⟨es, c, es', c', hb, rfl⟩ := h
  exact ⟨rfl, rfl, rfl, by simp [ChangeMaps.setBlock], fun i _ hi => ChangeMaps.heap_setBlock_other hb _ (fun e => hi (by rw [e]))⟩
theorem IMap.drop {T e : TypeId} (ht : Try.prog.underlying T = some (.map 3 e)) (h : IMap vr W b n f) {k : Int} (hk : inI64 k) (ty : TypeId) :
    ∃ W', (Builtin.delete_ #[T, 3] ty #[.map (some b), .int .i64 k]).run Try.prog W = .ok (.tuple #[]) W' ∧ IMap vr W' b n (lessAt f k) ∧ W.grownBy W' (some b) := by
  obtain ⟨D, hown, h1, h2, h3⟩ := h
  obtain ⟨W', hrun, ho, ht⟩ := hown.drop keyedI ht (keyOfI hk) ty
  have hle := grown_mem hown (turned_grownS ht)
  refine ⟨W', hrun, ⟨_, ho, fun y hy => ?_, fun y c hy => ?_, fun l hl => ?_⟩, turned_grownS ht⟩
  · by_cases e : y = k
    · subst e; exact has_del_same
    · rw [lessAt_other _ e] at hy
      rw [has_del_other (fun e' => e (keyI_inj _ _ e'))]; exact h1 y hy
  · by_cases e : y = k
    · subst e; rw [lessAt_same] at hy; cases hy
    · rw [lessAt_other _ e] at hy
      obtain ⟨g, u, g1, g2⟩ := h2 y c hy
      have hne : keyI y ≠ keyI k := fun e' => e (keyI_inj _ _ e')
      exact ⟨by rw [has_del_other hne]; exact g, u, fun z => by rw [atKey_del_other hne]; exact g1 z, vr.mono _ _ _ _ hle g2⟩
  · by_cases e : l = keyI k
    · exact ⟨k, e⟩
    · rw [has_del_other e] at hl; exact h3 l hl
end
/-- A slice, its elements seen through a function. -/
theorem slice_map {α β : Type} {t : Ty α} {t' : Ty β} (hsz : t'.sz = t.sz) {m m' : Mem} (hm : m.le m') {cs : List Value} {xs : List α} (f : α → β) (h : (tSlice t).rv m cs xs)
    (hf : ∀ x ∈ xs, ∀ cs, t.rv m cs x → t'.rv m' cs (f x)) : (tSlice t').rv m' cs (xs.map f) := by
  obtain ⟨a, cap, h1, h2, h3, h4⟩ := h
  refine ⟨a, cap, by simpa using h1, by simpa using h2, h3, fun h0 => ?_⟩
  obtain ⟨b, o, ha, hk⟩ := h4 (by simpa using h0)
  refine ⟨b, o, ha, fun k hk' => ?_⟩
  have hk2 : k < xs.length := by simpa using hk'
  obtain ⟨cs', g1, g2⟩ := hk k hk2
  rw [hsz]
  exact ⟨cs', g1.mono hm, by simpa using hf _ (List.getElem_mem hk2) _ g2⟩
theorem slice_re {α : Type} {t t' : Ty α} (hsz : t'.sz = t.sz) {m m' : Mem} (hm : m.le m') {cs : List Value} {xs : List α} (h : (tSlice t).rv m cs xs)
    (hf : ∀ x ∈ xs, ∀ cs, t.rv m cs x → t'.rv m' cs x) : (tSlice t').rv m' cs xs := by
  have := slice_map hsz hm (fun x => x) h hf
  simpa using this
theorem Owns.re {α : Type} {t t' : Ty α} (hsz : t'.sz = t.sz) {w : World} {B : Nat} {e : TypeId} {v : Value} {xs : List α} (h : Owns t w B e v xs)
    (hf : ∀ x ∈ xs, ∀ m cs, t.rv m cs x → t'.rv m cs x) : Owns t' w B e v xs := by
  obtain ⟨css, h1, h2, h4, h5⟩ := h
  exact ⟨css, h1, by rw [hsz]; exact h2, by rw [hsz]; exact h4, fun k h h' => hf _ (List.getElem_mem h') _ _ (h5 k h h')⟩
/-- The kind of a block of cells. -/
def kd (W : World) (b : Nat) : Option TypeId := match W.heap[b]? with | some (.cells _ t _) => some t | _ => none
theorem kd_cells {W : World} {b : Nat} {c : Array Value} {t : TypeId} {f : Nat × Nat} (h : W.heap[b]? = some (.cells c t f)) : kd W b = some t := by unfold kd; rw [h]
theorem kd_map {W : World} {b : Nat} (h : ∃ es c, W.heap[b]? = some (.map es c)) : kd W b = none := by obtain ⟨es, c, h⟩ := h; unfold kd; rw [h]
theorem kd_owns {α : Type} {t : Ty α} {w : World} {B : Nat} {e : TypeId} {v : Value} {xs : List α} (h : Owns t w B e v xs) {k : Nat} (hk : v.ownBlock = some k) : kd w k = some e := by
  obtain ⟨css, h1, ⟨h2, h3⟩, h4, h5⟩ := h
  rcases h3 with ⟨rfl, _⟩ | ⟨g, cap, cur, rfl, hbg, hg, _⟩
  · cases hk
  · cases hk; exact kd_cells hg
theorem kd_lt {W : World} {b : Nat} {t : TypeId} (h : kd W b = some t) : b < W.heap.size := by
  unfold kd at h
  cases e : W.heap[b]? with
  | none => rw [e] at h; cases h
  | some o => exact (Array.getElem?_eq_some_iff.1 e).1
theorem kd_ne {W : World} {a b : Nat} {s t : Option TypeId} (h : kd W a = s) (k : kd W b = t) (hne : s ≠ t) : a ≠ b := fun e => hne (by rw [← h, ← k, e])
theorem setS {w : World} {g o : Nat} {v : Value} {cur : Array Value} {t : TypeId} {f : Nat × Nat} (h : w.heap[g]? = some (.cells cur t f)) : (w.setCell ⟨g, o, none⟩ v).heap[g]? = some (.cells (cur.setIfInBounds o v) t f) := by
  simp [World.setCell, Array.getElem?_modify, h]
end Go.Proofs.Ytjenfhkikbndmaa
/- Readings whose deep parts lie in a memory that is known; slices of the call's own at whatever offset, and appends to them. No program in sight. -/
namespace Go.Proofs.Ytjenfhkikbndmaa
open Go.RowKit

def noMem : Mem := fun _ _ => none
def tIn {α : Type} (M : Mem) (t : Ty α) : Ty α := ⟨t.sz, fun _ cs x => t.rv M cs x, fun _ _ _ h => t.len _ _ _ h, fun _ _ _ _ _ h => h⟩
theorem tIn_flat {α : Type} (M : Mem) (t : Ty α) : (tIn M t).flat := fun _ _ _ _ h => h
theorem slice_in {α : Type} {M m : Mem} {t : Ty α} {v : Value} {xs : List α} (h : (tSlice (tIn M t)).rv m [v] xs) (hM : M.le m) : (tSlice t).rv m [v] xs := by
  obtain ⟨a, cap, h1, h2, h3, h4⟩ := h
  refine ⟨a, cap, h1, h2, h3, fun hp => ?_⟩
  obtain ⟨b, o, ha, hat⟩ := h4 hp
  refine ⟨b, o, ha, fun k hk => ?_⟩
  obtain ⟨cs, hc, hr⟩ := hat k hk
  exact ⟨cs, hc, t.mono _ _ _ _ hM hr⟩

/-- A slice whose block is the call's own; it need not begin at the block's first cell. -/
def OwnsO {α : Type} (t : Ty α) (w : World) (e : TypeId) (v : Value) (xs : List α) : Prop :=
  ∃ css : List (List Value), css.length = xs.length ∧ (∀ k, (h : k < css.length) → (h' : k < xs.length) → t.rv noMem css[k] xs[k]) ∧
   ((v = .slice none 0 0 ∧ xs = []) ∨ ∃ g off cap cur, v = .slice (some ⟨g, off, none⟩) xs.length cap ∧ w.heap[g]? = some (.cells cur e (0, 0)) ∧ xs.length ≤ cap ∧ cap ≤ maxLen ∧ off + cap * t.sz ≤ cur.size ∧ (cur.toList.drop off).take (xs.length * t.sz) = css.flatten)

theorem OwnsO.nil {α : Type} (t : Ty α) (w : World) (e : TypeId) : OwnsO t w e (.slice none 0 0) [] := ⟨[], rfl, fun k h => absurd h (by simp), .inl ⟨rfl, rfl⟩⟩
theorem OwnsO.form {α : Type} {t : Ty α} {w : World} {e : TypeId} {v : Value} {xs : List α} (h : OwnsO t w e v xs) : ∃ a cap, v = .slice a xs.length cap ∧ xs.length ≤ cap ∧ cap ≤ maxLen := by
  obtain ⟨css, _, _, h | ⟨g, off, cap, cur, h1, _, h3, h4, _⟩⟩ := h
  · obtain ⟨rfl, rfl⟩ := h; exact ⟨none, 0, rfl, Nat.le_refl _, Nat.zero_le _⟩
  · exact ⟨_, _, h1, h3, h4⟩
theorem OwnsO.keeps {α : Type} {t : Ty α} {w w' : World} {e : TypeId} {v : Value} {xs : List α} (h : OwnsO t w e v xs) (hk : ∀ k, v.ownBlock = some k → w'.heap[k]? = w.heap[k]?) : OwnsO t w' e v xs := by
  obtain ⟨css, g1, g2, h | ⟨g, off, cap, cur, rfl, h2, r⟩⟩ := h
  · exact ⟨css, g1, g2, .inl h⟩
  · exact ⟨css, g1, g2, .inr ⟨g, off, cap, cur, rfl, by rw [hk g rfl]; exact h2, r⟩⟩
theorem OwnsO.lt {α : Type} {t : Ty α} {w : World} {e : TypeId} {v : Value} {xs : List α} (h : OwnsO t w e v xs) : ∀ k, v.ownBlock = some k → k < w.heap.size := by
  obtain ⟨css, g1, g2, h | ⟨g, off, cap, cur, rfl, h2, r⟩⟩ := h
  · obtain ⟨rfl, _⟩ := h; intro k hk; cases hk
  · intro k hk; cases hk; exact (Array.getElem?_eq_some_iff.1 h2).1
theorem OwnsO.cells {α : Type} {t : Ty α} {w : World} {e : TypeId} {v : Value} {xs : List α} (h : OwnsO t w e v xs) : ∀ k, v.ownBlock = some k → ∃ cur, w.heap[k]? = some (.cells cur e (0, 0)) := by
  obtain ⟨css, g1, g2, h | ⟨g, off, cap, cur, rfl, h2, r⟩⟩ := h
  · obtain ⟨rfl, _⟩ := h; intro k hk; cases hk
  · intro k hk; cases hk; exact ⟨cur, h2⟩
theorem OwnsO.re {α : Type} {M M' : Mem} {t : Ty α} {w : World} {e : TypeId} {v : Value} {xs : List α} (h : OwnsO (tIn M t) w e v xs) (hM : M.le M') : OwnsO (tIn M' t) w e v xs := by
  obtain ⟨css, g1, g2, r⟩ := h
  exact ⟨css, g1, fun k h h' => t.mono _ _ _ _ hM (g2 k h h'), r⟩

theorem take_cell {cur : List Value} {off n k s j : Nat} {css : List (List Value)} {v : Value} (h : (cur.drop off).take (n * s) = css.flatten) (hl : css.length = n) (hs : ∀ c ∈ css, c.length = s) (hk : k < css.length) (e : css[k][j]? = some v) : cur[off + (k * s + j)]? = some v := by
  have hf := flatten_get css hs k hk j v e
  rw [← h, List.getElem?_take] at hf
  split at hf
  · rw [List.getElem?_drop] at hf; exact hf
  · cases hf

theorem OwnsO.lens {α : Type} {t : Ty α} {css : List (List Value)} {xs : List α} (h1 : css.length = xs.length) (h2 : ∀ k, (h : k < css.length) → (h' : k < xs.length) → t.rv noMem css[k] xs[k]) : ∀ c ∈ css, c.length = t.sz := fun c hc => by
  obtain ⟨k, hk, rfl⟩ := List.getElem_of_mem hc
  exact t.len _ _ _ (h2 k hk (by omega))

/-- Its elements, as a reading. -/
theorem OwnsO.rv {α : Type} {t : Ty α} (hf : t.flat) {w : World} {e : TypeId} {v : Value} {xs : List α} (h : OwnsO t w e v xs) {S : Nat → Prop} (hS : ∀ k, v.ownBlock = some k → S k) : (tSlice t).rv ((mem w).on S) [v] xs := by
  obtain ⟨css, g1, g2, h | ⟨g, off, cap, cur, rfl, h2, h3, h4, h5, h6⟩⟩ := h
  · obtain ⟨rfl, rfl⟩ := h; exact slice_nil _ _
  · refine ⟨some ⟨g, off, none⟩, cap, rfl, h3, h4, fun _ => ⟨g, off, rfl, fun k hk => ⟨css[k], fun j u hu => ?_, hf _ _ _ _ (g2 k (by omega) hk)⟩⟩⟩
    have hc := take_cell h6 g1 (OwnsO.lens g1 g2) (by omega) hu
    refine Mem.on_some ?_ (hS g rfl)
    rw [mem_cells h2]
    rw [Nat.add_assoc]
    simpa using hc
theorem OwnsO.rv' {α : Type} {t : Ty α} (hf : t.flat) {w : World} {e : TypeId} {v : Value} {xs : List α} (h : OwnsO t w e v xs) : (tSlice t).rv (mem w) [v] xs :=
  (tSlice t).mono _ _ _ _ (Mem.on_le _ (fun _ => True)) (h.rv hf (fun _ _ => trivial))

/-- What stands at an element's place; the block is not frozen. -/
theorem OwnsO.at {α : Type} {t : Ty α} {w : World} {e : TypeId} {v : Value} {xs : List α} (h : OwnsO t w e v xs) {k : Nat} (hk : k < xs.length) :
    ∃ g off cap cs, v = .slice (some ⟨g, off, none⟩) xs.length cap ∧ xs.length ≤ cap ∧ cap ≤ maxLen ∧ t.rv noMem cs xs[k] ∧ At (mem w) g (off + k * t.sz) cs := by
  obtain ⟨css, g1, g2, h | ⟨g, off, cap, cur, rfl, h2, h3, h4, h5, h6⟩⟩ := h
  · obtain ⟨_, rfl⟩ := h; simp at hk
  · refine ⟨g, off, cap, css[k]'(by omega), rfl, h3, h4, g2 k (by omega) hk, fun j u hu => ?_⟩
    have hc := take_cell h6 g1 (OwnsO.lens g1 g2) (by omega) hu
    rw [mem_cells h2, Nat.add_assoc]
    simpa using hc

theorem drop_take_succ {cur : List Value} {off n s : Nat} {c : List Value} {css : List (List Value)} (h : (cur.drop off).take ((n + 1) * s) = (c :: css).flatten) (hc : c.length = s) : (cur.drop (off + s)).take (n * s) = css.flatten := by
  rw [List.flatten_cons] at h
  have e : (cur.drop (off + s)).take (n * s) = ((cur.drop off).take ((n + 1) * s)).drop s := by
    rw [List.drop_take, List.drop_drop, Nat.succ_mul, Nat.add_sub_cancel]
  rw [e, h, ← hc, List.drop_left]

theorem flatten_length {β : Type} {s : Nat} : ∀ (css : List (List β)), (∀ c ∈ css, c.length = s) → css.flatten.length = css.length * s
  | [], _ => by simp
  | c :: css, h => by rw [List.flatten_cons, List.length_append, h c (by simp), flatten_length css (fun c hc => h c (by simp [hc])), List.length_cons, Nat.succ_mul]; omega

/-- The slice without its first element: 'x[1:]'. -/
theorem OwnsO.tail {α : Type} {P : Program} {t : Ty α} {w : World} {e T : TypeId} {v : Value} {x : α} {xs : List α} (h : OwnsO t w e v (x :: xs)) (hT : P.underlying T = some (.slice e)) (hs : (P.info? e).map (·.size) = some t.sz) :
    ∃ v', (∀ w2, (Instr.slice T v (some (.int .i64 1)) none none).run P w2 = .ok v' w2) ∧ OwnsO t w e v' xs ∧ v'.ownBlock = v.ownBlock ∧ ∃ a c, v' = .slice a xs.length c := by
  obtain ⟨css, g1, g2, h | ⟨g, off, cap, cur, rfl, h2, h3, h4, h5, h6⟩⟩ := h
  · obtain ⟨_, h⟩ := h; cases h
  · have hl := OwnsO.lens g1 g2
    cases css with
    | nil => simp at g1
    | cons c css =>
      have hc : c.length = t.sz := hl c (by simp)
      have hcl : css.length = xs.length := by simpa using g1
      simp only [List.length_cons] at h3 h6
      have h7 := drop_take_succ h6 hc
      have he : P.elem T = e := by simp [Program.elem, hT]
      have hsz : ∀ w2, (sizeOf e).run P w2 = .ok t.sz w2 := fun w2 => by
        cases hq : P.info? e with
        | none => simp [hq] at hs
        | some i => simp only [hq, Option.map_some, Option.some.injEq] at hs; simp [sizeOf, typeInfo, hq, hs]
      refine ⟨.slice (some (if cap = 1 then ⟨g, off, none⟩ else ⟨g, off + t.sz, none⟩)) xs.length (cap - 1), fun w2 => ?_, ⟨css, hcl, fun k h h' => by have := g2 (k + 1) (by simp; omega) (by simp; omega); simpa using this, .inr ?_⟩, ?_, _, _, rfl⟩
      · rw [run_slice_l w2 T _ _ cap (by rw [he]; exact hT) .i64 1 (by omega) (by simp; omega)]
        rw [he, hsz]
        simp only [Result.andThen, sliced, List.length_cons]
        by_cases h1 : cap = 1
        · simp [h1]
        · simp [h1, Addr.add]
      · by_cases h1 : cap = 1
        · have h0 : xs = [] := List.eq_nil_of_length_eq_zero (by omega)
          subst h0
          refine ⟨g, off, cap - 1, cur, by simp [h1], h2, by omega, by omega, by rw [h1] at h5 ⊢; omega, ?_⟩
          have : css = [] := List.eq_nil_of_length_eq_zero (by simpa using hcl)
          subst this; simp
        · refine ⟨g, off + t.sz, cap - 1, cur, by simp [h1], h2, by omega, by omega, ?_, h7⟩
          have e2 : cap * t.sz = (cap - 1) * t.sz + t.sz := by rw [← Nat.succ_mul]; congr 1; omega
          omega
      · by_cases h1 : cap = 1 <;> simp [h1, Value.ownBlock]

section
variable {P : Program}
theorem run_append_room_at (w : World) (t tx ty e : TypeId) (i : TypeInfo) (ht : P.underlying t = some (.slice e)) (hi : P.info? e = some i)
    (g off sLen sCap : Nat) (cur : Array Value) (hg : w.heap[g]? = some (.cells cur e (0, 0))) (x : Value) (n : Nat) (news : List Value) (hs : Src P i.size tx x n news w)
    (hroom : sLen + n ≤ sCap) (hfit : off + sLen * i.size + news.length ≤ cur.size) :
    (Builtin.append_ #[t, tx] ty #[.slice (some ⟨g, off, none⟩) sLen sCap, x]).run P w =
      .ok (.slice (some ⟨g, off, none⟩) (sLen + n) sCap) (w.setRow g (cur.toList.take (off + sLen * i.size) ++ news ++ cur.toList.drop (off + sLen * i.size + news.length)).toArray) := by
  have hst := run_storeCells_at P g (off + sLen * i.size) e news 0 cur w hg (by simpa using hfit) hs.one
  simp only [Nat.add_zero] at hst
  rcases hs.kind with ⟨e', hk⟩ | hk <;> simp [Builtin.append_, run_underlying ht, run_underlying hk, sizeOf, typeInfo, hi, hs.len, hroom, hs.cells, Addr.add_lit, hst]

theorem nextcap_fits {need old bytes : Nat} (h : old < need) (hb : need * bytes ≤ 140737488355328) : Builtin.nextslicecap need old * bytes ≤ 281474976710656 := growslice_fits h hb

theorem run_append_new {α : Type} {t : Ty α} (w : World) (T tx ty : TypeId) {e : TypeId} {z : Value} {bytes : Nat} (hT : P.underlying T = some (.slice e))
    (hinf : (P.info? e).map (fun i => (i.zero, i.size, i.bytes)) = some (some z, t.sz, bytes)) (hzs : z.cells.size = t.sz) (a : Option Addr) (cap : Nat) (xs ys : List α) (css : List (List Value))
    (hold : (Builtin.firstCells t.sz xs.length (.slice a xs.length cap)).run P w.drew = .ok css.flatten.toArray w.drew) (hcl : css.length = xs.length) (hcr : ∀ k, (h : k < css.length) → (h' : k < xs.length) → t.rv noMem css[k] xs[k])
    (x : Value) (dss : List (List Value)) (hs : Src P t.sz tx x ys.length dss.flatten w) (hl : dss.length = ys.length) (hr : ∀ k, (h : k < dss.length) → (h' : k < ys.length) → t.rv noMem dss[k] ys[k])
    (hn : cap < xs.length + ys.length) (h63 : xs.length + ys.length ≤ maxLen) (hbytes : (xs.length + ys.length) * bytes ≤ 140737488355328) :
    ∃ v' w', (Builtin.append_ #[T, tx] ty #[.slice a xs.length cap, x]).run P w = .ok v' w' ∧ OwnsO t w' e v' (xs ++ ys) ∧ Below w.heap.size w w' ∧ v'.ownBlock = some w.heap.size := by
  obtain ⟨i, hi, hz, hsize, hby⟩ := info_parts hinf
  have hsmall : xs.length + ys.length ≤ 9223372036854775807 := by simp only [maxLen] at h63; omega
  rw [← hsize] at hs hold
  rw [← hby] at hbytes
  have hrun := run_append_grow_src (P := P) w T tx ty e i z hT hi hz a xs.length cap css.flatten hold x ys.length dss.flatten hs hn (by omega) (growslice_fits hn hbytes)
  refine ⟨_, _, hrun, ⟨css ++ dss, by simp [hcl, hl], fun k h h' => ?_, .inr ⟨w.heap.size, 0, grownCap w (xs.length + ys.length) cap e, _, ?_, heap_alloc_new w.drew _, ?_, grownCap_le_maxLen w _ _ e h63, ?_, ?_⟩⟩, (Below.refl _ _).drew.alloc (Nat.le_refl _) _, rfl⟩
  · by_cases hk : k < css.length
    · rw [List.getElem_append_left hk, List.getElem_append_left (by omega)]
      exact hcr k hk (by omega)
    · have e1 : (css ++ dss)[k] = dss[k - css.length]'(by simp at h; omega) := List.getElem_append_right (by omega)
      have e2 : (xs ++ ys)[k] = ys[k - css.length]'(by simp at h'; omega) := by rw [List.getElem_append_right (by omega)]; congr 1; omega
      rw [e1, e2]
      exact hr _ _ _
  · rw [List.length_append]
  · rw [List.length_append]; exact grownCap_ge w _ _ e
  · have hge := grownCap_ge w (xs.length + ys.length) cap e
    have h1 : css.flatten.length = xs.length * t.sz := by rw [flatten_length css (OwnsO.lens hcl hcr), hcl]
    have h2 : dss.flatten.length = ys.length * t.sz := by rw [flatten_length dss (OwnsO.lens hl hr), hl]
    simp only [Array.size_append, List.size_toArray, size_zeroCells, hzs, List.length_append, h1, h2, ← Nat.add_mul]
    rw [Nat.zero_add]
    exact Nat.le_of_eq (by congr 1; omega)
  · have h1 : css.flatten.length = xs.length * t.sz := by rw [flatten_length css (OwnsO.lens hcl hcr), hcl]
    have h2 : dss.flatten.length = ys.length * t.sz := by rw [flatten_length dss (OwnsO.lens hl hr), hl]
    simp only [Array.toList_append, List.drop_zero, List.length_append, List.flatten_append]
    rw [Nat.add_mul, ← h1, ← h2, ← List.length_append, List.take_left]

/-- Where an append has put its elements: behind the old ones, where there was room, or all into a new block. -/
def AppAt (w w' : World) (v : Value) (n m : Nat) (v' : Value) : Prop :=
  (v'.ownBlock = v.ownBlock ∧ w.grownBy w' v.ownBlock ∧ ∃ a cap, v = .slice a n cap ∧ n + m ≤ cap) ∨ (Below w.heap.size w w' ∧ v'.ownBlock = some w.heap.size)
theorem AppAt.grown {w w' : World} {v v' : Value} {n m : Nat} (h : AppAt w w' v n m v') : w.grownBy w' v.ownBlock := by
  rcases h with ⟨_, h, _⟩ | ⟨hb, _⟩
  · exact h
  · exact ⟨hb.os, hb.tape, hb.output, hb.size, fun k hk _ => hb.block k hk⟩
theorem AppAt.block {w w' : World} {v v' : Value} {n m : Nat} (h : AppAt w w' v n m v') : v'.ownBlock = v.ownBlock ∨ ∀ k, v'.ownBlock = some k → w.heap.size ≤ k := by
  rcases h with ⟨h, _⟩ | ⟨_, h⟩
  · exact .inl h
  · exact .inr fun k hk => by rw [h] at hk; cases hk; exact Nat.le_refl _

/-- APPEND to a slice of the call's own, of any number of elements. -/
theorem run_append_o {α : Type} {t : Ty α} (w : World) (T tx ty : TypeId) {e : TypeId} {z : Value} {bytes : Nat} (hT : P.underlying T = some (.slice e))
    (hinf : (P.info? e).map (fun i => (i.zero, i.size, i.bytes)) = some (some z, t.sz, bytes)) (hzs : z.cells.size = t.sz) (v : Value) (xs ys : List α) (hown : OwnsO t w e v xs)
    (x : Value) (dss : List (List Value)) (hs : Src P t.sz tx x ys.length dss.flatten w) (hl : dss.length = ys.length) (hr : ∀ k, (h : k < dss.length) → (h' : k < ys.length) → t.rv noMem dss[k] ys[k])
    (h63 : xs.length + ys.length ≤ maxLen) (hbytes : (xs.length + ys.length) * bytes ≤ 140737488355328) :
    ∃ v' w', (Builtin.append_ #[T, tx] ty #[v, x]).run P w = .ok v' w' ∧ OwnsO t w' e v' (xs ++ ys) ∧ AppAt w w' v xs.length ys.length v' := by
  have h2 : dss.flatten.length = ys.length * t.sz := by rw [flatten_length dss (OwnsO.lens hl hr), hl]
  obtain ⟨css, g1, g2, h | ⟨g, off, cap, cur, rfl, hg, h3, h4, h5, h6⟩⟩ := hown
  · obtain ⟨rfl, rfl⟩ := h
    by_cases h0 : ys.length = 0
    · have hy : ys = [] := List.eq_nil_of_length_eq_zero h0
      subst hy
      have hd : dss = [] := List.eq_nil_of_length_eq_zero (by simpa using hl)
      subst hd
      obtain ⟨i, hi, hz, hsize, hby⟩ := info_parts hinf
      refine ⟨.slice none 0 0, w, ?_, OwnsO.nil _ _ _, .inl ⟨rfl, ⟨rfl, rfl, rfl, Nat.le_refl _, fun _ _ _ => rfl⟩, _, _, rfl, Nat.le_refl _⟩⟩
      rw [← hsize] at hs
      rcases hs.kind with ⟨e', hk⟩ | hk <;> (have hc := hs.cells; have hle := hs.len; simp only [List.length_nil] at hc hle; simp [Builtin.append_, run_underlying hT, run_underlying hk, sizeOf, typeInfo, hi, hle, hc])
    · obtain ⟨v', w', hrun, ho, hb, hblk⟩ := run_append_new (P := P) w T tx ty hT hinf hzs none 0 [] ys [] (run_firstCells_none w.drew t.sz 0 0 0) rfl (fun k h => absurd h (by simp)) x dss hs hl hr (by simp; omega) h63 hbytes
      exact ⟨v', w', hrun, ho, .inr ⟨hb, hblk⟩⟩
  · by_cases hroom : xs.length + ys.length ≤ cap
    · obtain ⟨i, hi, hz, hsize, hby⟩ := info_parts hinf
      have hfit : off + xs.length * t.sz + dss.flatten.length ≤ cur.size := by
        have := Nat.mul_le_mul_right t.sz hroom
        rw [Nat.add_mul] at this; omega
      rw [← hsize] at hs
      have hrun := run_append_room_at (P := P) w T tx ty e i hT hi g off xs.length cap cur hg x ys.length dss.flatten hs hroom (by rw [hsize]; exact hfit)
      rw [hsize] at hrun
      refine ⟨_, _, hrun, ⟨css ++ dss, by simp [g1, hl], fun k h h' => ?_, .inr ⟨g, off, cap, _, by rw [List.length_append], setRow_heap w g cur _ e _ hg, by rw [List.length_append]; exact hroom, h4, ?_, ?_⟩⟩, .inl ⟨rfl, ⟨rfl, rfl, rfl, by simp [World.setRow], fun k _ hk => setRow_other w g k _ (fun e => hk (by simp [Value.ownBlock, e]))⟩, _, _, rfl, hroom⟩⟩
      · by_cases hk : k < css.length
        · rw [List.getElem_append_left hk, List.getElem_append_left (by omega)]
          exact g2 k hk (by omega)
        · have e1 : (css ++ dss)[k] = dss[k - css.length]'(by simp at h; omega) := List.getElem_append_right (by omega)
          have e2 : (xs ++ ys)[k] = ys[k - css.length]'(by simp at h'; omega) := by rw [List.getElem_append_right (by omega)]; congr 1; omega
          rw [e1, e2]
          exact hr _ _ _
      · simp only [List.size_toArray, List.length_append, List.length_take, List.length_drop, Array.length_toList]
        omega
      · have h1 : css.flatten.length = xs.length * t.sz := by rw [flatten_length css (OwnsO.lens g1 g2), g1]
        simp only [List.length_append, List.flatten_append]
        have e0 : (cur.toList.take (off + xs.length * t.sz)).drop off = css.flatten := by rw [List.drop_take, ← h6]; congr 1; omega
        have el : off ≤ (cur.toList.take (off + xs.length * t.sz)).length := by simp; omega
        rw [List.append_assoc, List.drop_append_of_le_length el, e0, Nat.add_mul, ← h1, ← h2, ← List.append_assoc, ← List.length_append, List.take_left]
    · have hold : (Builtin.firstCells t.sz xs.length (.slice (some ⟨g, off, none⟩) xs.length cap)).run P w.drew = .ok css.flatten.toArray w.drew := by
        refine run_firstCells_some (P := P) w.drew t.sz xs.length ⟨g, off, none⟩ xs.length cap css.flatten (by rw [flatten_length css (OwnsO.lens g1 g2), g1]) (fun j u hj => ?_)
        rw [Addr.add_lit]
        show w.cell? ⟨g, off + j, none⟩ = some u
        rw [cell_of_row w g (off + j) cur e (0, 0) hg]
        rw [← h6, List.getElem?_take] at hj
        split at hj
        · rw [List.getElem?_drop] at hj; simpa using hj
        · cases hj
      obtain ⟨v', w', hrun, ho, hb, hblk⟩ := run_append_new (P := P) w T tx ty hT hinf hzs (some ⟨g, off, none⟩) cap xs ys css hold g1 g2 x dss hs hl hr (by omega) h63 hbytes
      exact ⟨v', w', hrun, ho, .inr ⟨hb, hblk⟩⟩

theorem run_append_o1 {α : Type} {t : Ty α} (w : World) (T ty : TypeId) {e : TypeId} {z : Value} {bytes : Nat} (hT : P.underlying T = some (.slice e))
    (hinf : (P.info? e).map (fun i => (i.zero, i.size, i.bytes)) = some (some z, t.sz, bytes)) (hzs : z.cells.size = t.sz) (v : Value) (xs : List α) (hown : OwnsO t w e v xs)
    (nb c : Nat) (y : α) (cs : List Value) (hat : At (mem w) nb 0 cs) (hrv : t.rv noMem cs y) (h1 : ∀ u ∈ cs, u.oneCell' = true)
    (h63 : xs.length + 1 ≤ maxLen) (hbytes : (xs.length + 1) * bytes ≤ 140737488355328) :
    ∃ v' w', (Builtin.append_ #[T, T] ty #[v, .slice (some ⟨nb, 0, none⟩) 1 c]).run P w = .ok v' w' ∧ OwnsO t w' e v' (xs ++ [y]) ∧ AppAt w w' v xs.length 1 v' := by
  have hl := t.len _ _ _ hrv
  refine run_append_o (P := P) w T T ty hT hinf hzs v xs [y] hown _ [cs] (Src.ofSlice w hT ⟨nb, 0, none⟩ 1 c _ (by simp [hl]) (fun j u hj => ?_) (by simpa using h1)) rfl (fun k h h' => ?_) h63 hbytes
  · rw [Addr.add_lit]
    exact hat j u (by simpa using hj)
  · have : k = 0 := by simp at h; omega
    subst this; exact hrv

/-- APPEND OF ONE ELEMENT. -/
theorem wpList_append_o1 {α : Type} {ops : Array Oper} {rest : List Oper} {o : Oper} {a : Act} {Q : Exit → Act → World → Prop} {w : World} (hgd : o.guard = none) (s x : Operand) (T : TypeId)
    (ho : o.op = .call { callee := .builtin .append, args := #[s, x], argTypes := #[T, T] }) (t : Ty α) {e : TypeId} {z : Value} {bytes : Nat} (hT : P.underlying T = some (.slice e))
    (hinf : (P.info? e).map (fun i => (i.zero, i.size, i.bytes)) = some (some z, t.sz, bytes)) (hzs : z.cells.size = t.sz) (v : Value) (xs : List α) (hs : a.eval s = v) (hown : OwnsO t w e v xs)
    (nb c : Nat) (y : α) (hx : a.eval x = .slice (some ⟨nb, 0, none⟩) 1 c) (cs : List Value) (hat : At (mem w) nb 0 cs) (hrv : t.rv noMem cs y) (h1 : ∀ u ∈ cs, u.oneCell' = true)
    (h63 : xs.length + 1 ≤ maxLen) (hbytes : (xs.length + 1) * bytes ≤ 140737488355328)
    (h : ∀ v' w', OwnsO t w' e v' (xs ++ [y]) → AppAt w w' v xs.length 1 v' → wpList P ops Q rest (a.put o.dst v') w') : wpList P ops Q (o :: rest) a w := by
  refine wpList_plain hgd fun K hK => ?_
  obtain ⟨v', w', hr, h2, h3⟩ := run_append_o1 (P := P) w T o.type hT hinf hzs v xs hown nb c y cs hat hrv h1 h63 hbytes
  unfold Oper.wp execOp
  simp only [ho, resolve, invoke, builtin, Sem.run_bind, Sem.run_pure, Result.andThen_ok, List.map_toArray, List.map_cons, List.map_nil, hs, hx, hr]
  exact hK _ _ (h v' w' h2 h3)
/-- The same as one step of a region that draws its order. -/
theorem step_append_o1 {α : Type} {ops : Array Oper} {o : Oper} {a : Act} {w : World} {K : Act → World → Prop} {Q : Exit → Act → World → Prop} {E : Prop} (hgd : o.guard = none) (s x : Operand) (T : TypeId)
    (ho : o.op = .call { callee := .builtin .append, args := #[s, x], argTypes := #[T, T] }) (t : Ty α) {e : TypeId} {z : Value} {bytes : Nat} (hT : P.underlying T = some (.slice e))
    (hinf : (P.info? e).map (fun i => (i.zero, i.size, i.bytes)) = some (some z, t.sz, bytes)) (hzs : z.cells.size = t.sz) (v : Value) (xs : List α) (hs : a.eval s = v) (hown : OwnsO t w e v xs)
    (nb c : Nat) (y : α) (hx : a.eval x = .slice (some ⟨nb, 0, none⟩) 1 c) (cs : List Value) (hat : At (mem w) nb 0 cs) (hrv : t.rv noMem cs y) (h1 : ∀ u ∈ cs, u.oneCell' = true)
    (h63 : xs.length + 1 ≤ maxLen) (hbytes : (xs.length + 1) * bytes ≤ 140737488355328)
    (h : ∀ v' w', OwnsO t w' e v' (xs ++ [y]) → AppAt w w' v xs.length 1 v' → K (a.put o.dst v') w') :
    if Region.wanted o (yielded ops a.tmps) = true then Oper.wp P o a w K Q else E := by
  have hw : Region.wanted o (yielded ops a.tmps) = true := by simp [Region.wanted, hgd]
  rw [if_pos hw]
  obtain ⟨v', w', hr, h2, h3⟩ := run_append_o1 (P := P) w T o.type hT hinf hzs v xs hown nb c y cs hat hrv h1 h63 hbytes
  unfold Oper.wp execOp
  simp only [ho, resolve, invoke, builtin, Sem.run_bind, Sem.run_pure, Result.andThen_ok, List.map_toArray, List.map_cons, List.map_nil, hs, hx, hr]
  exact h v' w' h2 h3
end
end Go.Proofs.Ytjenfhkikbndmaa
/- A slab's state in memory: the invariant, its steps (for chapter 14). -/
namespace Go.Proofs.Ytjenfhkikbndmaa
open Go.RowKit Go.Maps

/-- A run, by its number. -/
def tRun (ad : Nat → Option Nat) : Ty Nat := ⟨1, fun _ cs n => ∃ a, ad n = some a ∧ cs = [ptrS a], fun _ _ _ h => by obtain ⟨a, _, rfl⟩ := h; rfl, fun _ _ _ _ _ h => h⟩
theorem tRun_flat (ad : Nat → Option Nat) : (tRun ad).flat := fun _ _ _ _ h => h
abbrev tRow (ad : Nat → Option Nat) : Ty (List Nat) := tSlice (tRun ad)
abbrev tLev (ad : Nat → Option Nat) : Ty (List (List Nat)) := tSlice (tRow ad)
def vSn (M : Mem) (ad : Nat → Option Nat) : VR (List (List Nat)) := ⟨fun _ v x => (tLev ad).rv M [v] x, fun _ _ _ _ _ h => h⟩
def vRn (ad : Nat → Option Nat) : VR Nat := ⟨fun _ v n => ∃ a, ad n = some a ∧ v = ptrS a, fun _ _ _ _ _ h => h⟩
def adLe (ad ad' : Nat → Option Nat) : Prop := ∀ n a, ad n = some a → ad' n = some a
theorem adLe.refl (ad : Nat → Option Nat) : adLe ad ad := fun _ _ h => h
theorem tRow_re {ad ad' : Nat → Option Nat} (ha : adLe ad ad') {M M' : Mem} (hM : M.le M') {cs : List Value} {l : List Nat} (h : (tRow ad).rv M cs l) : (tRow ad').rv M' cs l :=
  slice_re (t := tRun ad) (t' := tRun ad') rfl hM h (fun _ _ _ ⟨a, h1, h2⟩ => ⟨a, ha _ _ h1, h2⟩)
theorem tLev_re {ad ad' : Nat → Option Nat} (ha : adLe ad ad') {M M' : Mem} (hM : M.le M') {cs : List Value} {l : List (List Nat)} (h : (tLev ad).rv M cs l) : (tLev ad').rv M' cs l :=
  slice_re (t := tRow ad) (t' := tRow ad') rfl hM h (fun _ _ _ h => tRow_re ha hM h)

/-- A slab, told plainly. -/
structure LS where
  groups : Int
  fill : Int
  fan : Int
  count : Int
  table : List RecS
  lv : List (List Nat)
  sn : List (Int × List (List Nat))
  kept : List Nat
  rc : Nat → List RecS
  use : Nat → Int
  last : Int
  runs : Nat
def snF (s : LS) (k : Int) : Option (List (List Nat)) := (s.sn.find? fun x => x.1 == k).map Prod.snd
def keptF (s : LS) (k : Int) : Option Nat := if 0 ≤ k ∧ k.toNat ∈ s.kept then some k.toNat else none
theorem keptF_some {s : LS} {n : Nat} (h : n ∈ s.kept) : keptF s n = some n := by unfold keptF; rw [if_pos ⟨by omega, by simpa using h⟩]; simp
theorem keptF_none {s : LS} {n : Nat} (h : n ∉ s.kept) : keptF s n = none := by unfold keptF; rw [if_neg (fun e => h (by simpa using e.2))]
/-- What a slab holds, and where; tc is what its cell of the table has (tv, but in the midst of a flush). -/
structure HL where
  s : LS
  tc : Value
  tv : Value
  lvv : Value
  sb : Nat
  kb : Nat
  nn : Nat
  ad : Nat → Option Nat
  M : Mem
def lCells (r : HL) : Array Value := #[.int .i64 r.s.groups, .int .i64 r.s.fill, .int .i64 r.s.fan, .int .i64 r.s.count, r.tc, r.lvv, .map (some r.sb), .map (some r.kb), .int .i64 r.s.last, .int .i64 r.s.runs]
/-- A run in memory. -/
def RunAt (W : World) (M : Mem) (a n : Nat) (l : List RecS) (u : Int) : Prop := ∃ v, W.heap[a]? = some (.cells #[.int .i64 n, v, .int .i64 u] 97 (0, 0)) ∧ tRecSs.rv M [v] l
theorem RunAt.keep {W W' : World} {M M' : Mem} {a n : Nat} {l : List RecS} {u : Int} (h : RunAt W M a n l u) (hb : W'.heap[a]? = W.heap[a]?) (hM : M.le M') : RunAt W' M' a n l u :=
  let ⟨v, h1, h2⟩ := h; ⟨v, hb.trans h1, tRecSs.mono _ _ _ _ hM h2⟩
def mutL (p : Nat) (r : HL) (b : Nat) : Prop := b = p ∨ b = r.sb ∨ b = r.kb ∨ r.tv.ownBlock = some b ∨ r.lvv.ownBlock = some b ∨ ∃ n, n ∈ r.s.kept ∧ r.ad n = some b
/-- Levels, as they lie in memory. -/
abbrev OwnsL (r : HL) (W : World) (base : Nat) (v : Value) (l : List (List Nat)) : Prop := Owns (tIn r.M (tRow r.ad)) W base 72 v l
abbrev OwnsT (W : World) (base : Nat) (v : Value) (l : List RecS) : Prop := Owns tRecS W base 54 v l
structure LInv (W : World) (base p : Nat) (r : HL) : Prop where
  hb : W.heap[p]? = some (.cells (lCells r) 65 (0, 0))
  tb : OwnsT W base r.tv r.s.table
  lb : OwnsL r W base r.lvv r.s.lv
  sm : IMap (vSn r.M r.ad) W r.sb r.nn (snF r.s)
  km : IMap (vRn r.ad) W r.kb r.nn (keptF r.s)
  rn : ∀ n ∈ r.s.kept, ∃ a, r.ad n = some a ∧ RunAt W r.M a n (r.s.rc n) (r.s.use n)
  inj : ∀ m n a, r.ad m = some a → r.ad n = some a → m = n
  adl : ∀ n a, r.ad n = some a → n ≤ r.s.runs ∧ a < W.heap.size
  ne : r.sb ≠ r.kb
  ms : ∀ b o v, r.M b o = some v → mem W b o = some v ∧ ¬ mutL p r b
  ge : ∀ b, mutL p r b → base ≤ b
  bw : base ≤ W.heap.size
/-- A step: what it changes, what becomes readable. -/
structure LStep (W : World) (base p : Nat) (r : HL) (W' : World) (r' : HL) : Prop where
  inv : LInv W' base p r'
  kp : Keeps (mutL p r) W W'
  mb : ∀ b, mutL p r' b → mutL p r b ∨ W.heap.size ≤ b
  md : ∀ b o v, r'.M b o = some v → (∃ o' v', r.M b o' = some v') ∨ mutL p r b ∨ W.heap.size ≤ b
  ml : r.M.le r'.M
  al : adLe r.ad r'.ad
section
variable {W W' : World} {base p : Nat} {r r' : HL}
theorem LInv.kP (h : LInv W base p r) : kd W p = some 65 := kd_cells h.hb
theorem LInv.kS (h : LInv W base p r) : kd W r.sb = none := kd_map h.sm.obj
theorem LInv.kK (h : LInv W base p r) : kd W r.kb = none := kd_map h.km.obj
theorem LInv.kT (h : LInv W base p r) {b : Nat} (hb : r.tv.ownBlock = some b) : kd W b = some 54 := kd_owns h.tb hb
theorem LInv.kL (h : LInv W base p r) {b : Nat} (hb : r.lvv.ownBlock = some b) : kd W b = some 72 := kd_owns h.lb hb
theorem LInv.kR (h : LInv W base p r) {n a : Nat} (hn : n ∈ r.s.kept) (ha : r.ad n = some a) : kd W a = some 97 := by
  obtain ⟨a', e, v, h1, -⟩ := h.rn n hn
  rw [ha] at e; cases e
  exact kd_cells h1
theorem LInv.run (h : LInv W base p r) {n a : Nat} (hn : n ∈ r.s.kept) (ha : r.ad n = some a) : RunAt W r.M a n (r.s.rc n) (r.s.use n) := by
  obtain ⟨a', e, h1⟩ := h.rn n hn
  rw [ha] at e; cases e
  exact h1
theorem LInv.kind (h : LInv W base p r) : ∀ b, mutL p r b → b < W.heap.size := fun b hb => by
  rcases hb with rfl | rfl | rfl | e | e | ⟨n, hn, e⟩
  · exact kd_lt h.kP
  · exact h.sm.lt
  · exact h.km.lt
  · exact (h.tb.lt b e).2
  · exact (h.lb.lt b e).2
  · exact kd_lt (h.kR hn e)
theorem LInv.ml (h : LInv W base p r) : r.M.le (mem W) := fun b o v e => (h.ms b o v e).1
/-- The readable memory is there behind what changes mutable blocks alone. -/
theorem LInv.msKeep (h : LInv W base p r) (hk : Keeps (mutL p r) W W') (hm : ∀ b, mutL p r' b → mutL p r b ∨ W.heap.size ≤ b) : ∀ b o v, r.M b o = some v → mem W' b o = some v ∧ ¬ mutL p r' b := fun b o v e => by
  obtain ⟨h1, h2⟩ := h.ms b o v e
  have hl := mem_lt h1
  refine ⟨(mem_of_block (hk.block b hl h2) o).trans h1, fun hx => ?_⟩
  rcases hm b hx with h3 | h3
  · exact h2 h3
  · omega
/-- A step from its parts. -/
theorem LStep.build (h : LInv W base p r) (hk : Keeps (mutL p r) W W') (hm : ∀ b, mutL p r' b → mutL p r b ∨ W.heap.size ≤ b)
    (hb : W'.heap[p]? = some (.cells (lCells r') 65 (0, 0))) (tb : OwnsT W' base r'.tv r'.s.table) (lb : OwnsL r' W' base r'.lvv r'.s.lv)
    (sm : IMap (vSn r'.M r'.ad) W' r'.sb r'.nn (snF r'.s)) (km : IMap (vRn r'.ad) W' r'.kb r'.nn (keptF r'.s)) (rn : ∀ n ∈ r'.s.kept, ∃ a, r'.ad n = some a ∧ RunAt W' r'.M a n (r'.s.rc n) (r'.s.use n))
    (inj : ∀ m n a, r'.ad m = some a → r'.ad n = some a → m = n) (adl : ∀ n a, r'.ad n = some a → n ≤ r'.s.runs ∧ a < W'.heap.size) (ne : r'.sb ≠ r'.kb)
    (ms : ∀ b o v, r'.M b o = some v → mem W' b o = some v ∧ ¬ mutL p r' b) (md : ∀ b o v, r'.M b o = some v → (∃ o' v', r.M b o' = some v') ∨ mutL p r b ∨ W.heap.size ≤ b) (ml : r.M.le r'.M) (al : adLe r.ad r'.ad) : LStep W base p r W' r' := by
  refine ⟨⟨hb, tb, lb, sm, km, rn, inj, adl, ne, ms, fun b hb' => ?_, Nat.le_trans h.bw hk.size⟩, hk, hm, md, ml, al⟩
  rcases hm b hb' with e | e
  · exact h.ge b e
  · have := h.bw; omega
theorem LStep.trans {W1 W2 : World} {r1 r2 : HL} (h : LStep W base p r W1 r1) (g : LStep W1 base p r1 W2 r2) : LStep W base p r W2 r2 := by
  have hsz := h.kp.size
  have hmb : ∀ b, mutL p r1 b ∨ W1.heap.size ≤ b → mutL p r b ∨ W.heap.size ≤ b := fun b e => by
    rcases e with e | e
    · exact h.mb b e
    · exact .inr (by omega)
  refine ⟨g.inv, ⟨g.kp.os.trans h.kp.os, g.kp.tape.trans h.kp.tape, g.kp.output.trans h.kp.output, Nat.le_trans hsz g.kp.size, fun k hk hn => ?_⟩, fun k hk => hmb k (g.mb k hk), fun b o v e => ?_, Mem.le_trans h.ml g.ml, fun n a e => g.al n a (h.al n a e)⟩
  · refine (g.kp.block k (by omega) fun hm => ?_).trans (h.kp.block k hk hn)
    rcases h.mb k hm with e | e
    · exact hn e
    · omega
  · rcases g.md b o v e with ⟨o', v', e'⟩ | e'
    · exact h.md b o' v' e'
    · exact .inr (hmb b e')
theorem LStep.below (h : LStep W base p r W' r') (i : LInv W base p r) : Below base W W' := h.kp.below i.bw i.ge
theorem LStep.cell (h : LStep W base p r W' r') {b : Nat} (hb : b < W.heap.size) (hn : ¬ mutL p r b) (o : Nat) : W'.cell? ⟨b, o, none⟩ = W.cell? ⟨b, o, none⟩ := mem_of_block (h.kp.block b hb hn) o

/-- The parts that a change leaves, in another world. -/
theorem LInv.tbK (h : LInv W base p r) {F : Nat → Prop} (hk : Keeps F W W') (hF : ∀ k, r.tv.ownBlock = some k → ¬ F k) : OwnsT W' base r.tv r.s.table := h.tb.keepsFlat tRecS_flat hk hF
theorem LInv.lbK (h : LInv W base p r) {F : Nat → Prop} (hk : Keeps F W W') (hF : ∀ k, r.lvv.ownBlock = some k → ¬ F k) (hM : r.M.le r'.M) (ha : adLe r.ad r'.ad) : OwnsL r' W' base r.lvv r.s.lv :=
  (h.lb.keepsFlat (tIn_flat _ _) hk hF).re (t := tIn r.M (tRow r.ad)) (t' := tIn r'.M (tRow r'.ad)) rfl (fun _ _ _ _ hx => tRow_re ha hM hx)
theorem LInv.smK (h : LInv W base p r) (hb : W'.heap[r.sb]? = W.heap[r.sb]?) (hM : r.M.le r'.M) (ha : adLe r.ad r'.ad) (hs : r'.s.sn = r.s.sn) : IMap (vSn r'.M r'.ad) W' r.sb r.nn (snF r'.s) := by
  have e : snF r'.s = snF r.s := by funext k; unfold snF; rw [hs]
  rw [e]
  exact h.sm.re hb (fun _ hx => hx) (fun k x hx => ⟨x, hx, fun v hv => tLev_re ha hM hv⟩)
theorem LInv.kmK (h : LInv W base p r) (hb : W'.heap[r.kb]? = W.heap[r.kb]?) (ha : adLe r.ad r'.ad) (hs : r'.s.kept = r.s.kept) : IMap (vRn r'.ad) W' r.kb r.nn (keptF r'.s) := by
  have e : keptF r'.s = keptF r.s := by funext k; unfold keptF; rw [hs]
  rw [e]
  exact h.km.re hb (fun _ hx => hx) (fun k x hx => ⟨x, hx, fun v ⟨a, h1, h2⟩ => ⟨a, ha _ _ h1, h2⟩⟩)
theorem LInv.rnK (h : LInv W base p r) {n : Nat} (hn : n ∈ r.s.kept) {F : Nat → Prop} (hk : Keeps F W W') (hF : ∀ a, r.ad n = some a → ¬ F a) (hM : r.M.le r'.M) (ha : adLe r.ad r'.ad) : ∃ a, r'.ad n = some a ∧ RunAt W' r'.M a n (r.s.rc n) (r.s.use n) := by
  obtain ⟨a, e, hr⟩ := h.rn n hn
  exact ⟨a, ha _ _ e, hr.keep (hk.block a (kd_lt (h.kR hn e)) (hF a e)) hM⟩
theorem LStep.pure (h : LInv W base p r) (hb : Below W.heap.size W W') : LStep W base p r W' r := by
  have hk : Keeps (fun k => W.heap.size ≤ k) W W' := below_keeps hb
  have hlt := h.kind
  have hkm : Keeps (mutL p r) W W' := hk.wide (fun k h1 h2 => by omega)
  have hat : ∀ b, mutL p r b → W'.heap[b]? = W.heap[b]? := fun b e => hb.block b (hlt b e)
  have hn : ∀ b, mutL p r b → ¬ W.heap.size ≤ b := fun b e h2 => by have := hlt b e; omega
  exact LStep.build h hkm (fun _ e => .inl e) ((hat p (.inl rfl)).trans h.hb) (h.tbK hk (fun k e => hn k (.inr (.inr (.inr (.inl e)))))) (h.lbK hk (fun k e => hn k (.inr (.inr (.inr (.inr (.inl e)))))) (Mem.le_refl _) (adLe.refl _))
    (h.smK (hat _ (.inr (.inl rfl))) (Mem.le_refl _) (adLe.refl _) rfl) (h.kmK (hat _ (.inr (.inr (.inl rfl)))) (adLe.refl _) rfl)
    (fun n hn' => h.rnK hn' hk (fun a e => hn a (.inr (.inr (.inr (.inr (.inr ⟨n, hn', e⟩)))))) (Mem.le_refl _) (adLe.refl _)) h.inj (fun n a e => ⟨(h.adl n a e).1, Nat.lt_of_lt_of_le (h.adl n a e).2 hb.size⟩) h.ne (h.msKeep hkm (fun _ e => .inl e)) (fun b o v e => .inl ⟨o, v, e⟩) (Mem.le_refl _) (adLe.refl _)
theorem LInv.pure (h : LInv W base p r) (hb : Below W.heap.size W W') : LInv W' base p r := (LStep.pure h hb).inv
theorem LStep.refl (h : LInv W base p r) : LStep W base p r W r := LStep.pure h (Below.refl _ _)
end
end Go.Proofs.Ytjenfhkikbndmaa
/- row.Name, its reference, IndexFunc and ContainsFunc at strings (printed by gen_hname.py out of chapter 02's texts). -/
namespace Go.Proofs.Ytjenfhkikbndmaa
open Go.RowKit
def idxOf {α : Type} (p : α → Bool) (l : List α) : Int := match l.findIdx? p with | none => -1 | some i => i
theorem idxOf_any {α : Type} (p : α → Bool) (l : List α) : decide (0 ≤ idxOf p l) = l.any p := by
  unfold idxOf
  cases h : l.findIdx? p with
  | none =>
    rw [List.findIdx?_eq_none_iff] at h
    have : l.any p = false := by simpa using h
    rw [this]; rfl
  | some i =>
    rw [List.findIdx?_eq_some_iff_getElem] at h
    obtain ⟨h1, h2, _⟩ := h
    have : l.any p = true := List.any_eq_true.2 ⟨l[i], List.getElem_mem h1, h2⟩
    rw [this]; simp
theorem idxOf_none {α : Type} {p : α → Bool} {l : List α} (h : ∀ x ∈ l, p x = false) : idxOf p l = -1 := by
  unfold idxOf
  rw [List.findIdx?_eq_none_iff.2 (by simpa using h)]
theorem idxOf_at {α : Type} {p : α → Bool} {l : List α} {k : Nat} (hk : k < l.length) (hp : p l[k] = true) (h : ∀ x ∈ l.take k, p x = false) : idxOf p l = k := by
  unfold idxOf
  have : l.findIdx? p = some k := by
    rw [List.findIdx?_eq_some_iff_getElem]
    refine ⟨hk, hp, fun j hj => ?_⟩
    have := h l[j] (List.mem_take_iff_getElem.2 ⟨j, by omega, rfl⟩)
    simp [this]
  rw [this]

theorem mem_take_snoc {α : Type} {l : List α} {k : Nat} (hk : k < l.length) {q : α → Prop} (h : ∀ x ∈ l.take k, q x) (hx : q l[k]) : ∀ x ∈ l.take (k + 1), q x := fun x hm => by
  rw [List.take_succ_eq_append_getElem hk] at hm
  rcases List.mem_append.1 hm with hm | hm
  · exact h x hm
  · simp at hm; subst hm; exact hx

def rowWithinF : Nat := 57
set_option maxHeartbeats 400000 in
theorem rowWithin_any (n lo hi : Int) (w : World) :
    Calls Try.prog 57 #[.int .i64 n, .int .i64 lo, .int .i64 hi] w fun e w' => e = .returned (.bool (decide (lo ≤ n ∧ n ≤ hi))) ∧ w = w' := by
  by_cases h1 : lo ≤ n <;> by_cases h2 : n ≤ hi
  all_goals
    go_enter Try.func57, Try.ntmps57
    go_wp2
    go_ret
    exact ⟨by simp [*], rfl⟩
def lowC (c : Int) : Bool := decide (97 ≤ c ∧ c ≤ 122)
def nameOk (i : Nat) (c : Int) : Bool := lowC c || (decide (i ≠ 0) && (decide (48 ≤ c ∧ c ≤ 57) || decide (c = 95)))
def byteAt (s : ByteArray) (i : Nat) : Int := (s.data.toList.getD i 0).toNat
def isName (s : ByteArray) : Bool := (List.range s.size).all (fun i => nameOk i (byteAt s i)) && decide (1 ≤ s.size ∧ s.size ≤ 16)
theorem isName_all {s : ByteArray} (h : ∀ i, i < s.size → nameOk i (byteAt s i) = true) : isName s = decide (1 ≤ (s.size : Int) ∧ (s.size : Int) ≤ 16) := by
  unfold isName
  have : (List.range s.size).all (fun i => nameOk i (byteAt s i)) = true := by rw [List.all_eq_true]; intro i hi; exact h i (by simpa using hi)
  rw [this, Bool.true_and]
  congr 1
  apply propext; omega
theorem isName_bad {s : ByteArray} {i : Nat} (hi : i < s.size) (h : nameOk i (byteAt s i) = false) : isName s = false := by
  unfold isName
  have : (List.range s.size).all (fun i => nameOk i (byteAt s i)) = false := by rw [List.all_eq_false]; exact ⟨i, by simpa using hi, by simp [h]⟩
  rw [this]; rfl
theorem isName_size {s : ByteArray} (h : isName s = true) : 1 ≤ s.size ∧ s.size ≤ 16 := by
  unfold isName at h
  rw [Bool.and_eq_true] at h
  simpa using h.2
theorem byteAt_get (s : ByteArray) (k : Nat) (h : k < s.size) : ((s[k]).toNat : Int) = byteAt s k := by
  unfold byteAt
  have h' : k < s.data.toList.length := h
  rw [List.getD_eq_getElem?_getD, List.getElem?_eq_getElem h', Option.getD_some]
  rfl

set_option maxHeartbeats 1000000 in
theorem rowName_any (s : ByteArray) (w : World) (hs : s.size ≤ maxLen) :
    Calls Try.prog 40 #[.string s] w fun e w' => e = .returned (.bool (isName s)) ∧ w = w' := by
  unfold maxLen at hs
  go_enter Try.func40, Try.ntmps40
  go_wp2
  go_loop [7] (fun i => ∃ k : Nat, k ≤ s.size ∧ i = .int .i64 k ∧ Hid (∀ i, i < k → nameOk i (byteAt s i) = true)) (fun i => s.size - (intOf i).toNat)
  case atStart => exact ⟨0, by omega, rfl, Lib.hid (fun i hi => absurd hi (by omega))⟩
  case round =>
    obtain ⟨k, hk, rfl, HT⟩ := hrel
    by_cases hlt : k < s.size
    · have HB := Lib.hid (byteAt_get s k hlt)
      have HN := Lib.hid (show nameOk k (byteAt s k) = true → ∀ i, i < k + 1 → nameOk i (byteAt s i) = true from fun h i hi => by
        by_cases e : i = k
        · subst e; exact h
        · exact HT.out i (by omega))
      have HX := Lib.hid (fun h => isName_bad (s := s) (i := k) hlt h)
      have HU := Lib.hid (show ((s[k]).toNat : Int) = byteAt s k from HB.out)
      have hb1 : 0 ≤ ((s[k]).toNat : Int) := by omega
      have hb2 : ((s[k]).toNat : Int) ≤ 255 := by have := (s[k]).toNat_lt; omega
      have HD := Lib.hid (show nameOk k (byteAt s k) = (lowC (s[k]).toNat || (decide (k ≠ 0) && (decide (48 ≤ ((s[k]).toNat : Int) ∧ ((s[k]).toNat : Int) ≤ 57) || decide (((s[k]).toNat : Int) = 95)))) by rw [HB.out]; rfl)
      clear HT HB
      generalize nameOk k (byteAt s k) = r at HD HN HX
      by_cases h1 : 97 ≤ ((s[k]).toNat : Int) ∧ ((s[k]).toNat : Int) ≤ 122
      · have e1 : decide (97 ≤ ((s[k]).toNat : Int) ∧ ((s[k]).toNat : Int) ≤ 122) = true := by simpa using h1
        have HR := Lib.hid (show r = true by rw [HD.out]; unfold lowC; rw [e1]; rfl)
        clear h1
        go_wp2_with (go_at_call 57; refine (rowWithin_any _ _ _ _).mono ?_; rintro e w' ⟨rfl, rfl⟩)
        go_round
        case rel => exact ⟨k + 1, by omega, by go_num, Lib.hid (HN.out HR.out)⟩
        case measure => simp [intOf]; omega
      · have e1 : decide (97 ≤ ((s[k]).toNat : Int) ∧ ((s[k]).toNat : Int) ≤ 122) = false := by simpa using h1
        clear h1
        by_cases h0 : k = 0
        · have HR := Lib.hid (show r = false by rw [HD.out]; unfold lowC; rw [e1]; simp [h0])
          have e0 : ((k : Int) == 0) = true := by simp [h0]
          clear h0
          go_wp2_with (go_at_call 57; refine (rowWithin_any _ _ _ _).mono ?_; rintro e w' ⟨rfl, rfl⟩)
          go_ret
          exact ⟨by rw [HX.out HR.out]; rfl, rfl⟩
        · have e0 : ((k : Int) == 0) = false := by simp; omega
          by_cases h2 : 48 ≤ ((s[k]).toNat : Int) ∧ ((s[k]).toNat : Int) ≤ 57
          · have e2 : decide (48 ≤ ((s[k]).toNat : Int) ∧ ((s[k]).toNat : Int) ≤ 57) = true := by simpa using h2
            have HR := Lib.hid (show r = true by rw [HD.out, e2]; simp [h0])
            clear h2 h0
            go_wp2_with (go_at_call 57; refine (rowWithin_any _ _ _ _).mono ?_; rintro e w' ⟨rfl, rfl⟩)
            go_round
            case rel => exact ⟨k + 1, by omega, by go_num, Lib.hid (HN.out HR.out)⟩
            case measure => simp [intOf]; omega
          · have e2 : decide (48 ≤ ((s[k]).toNat : Int) ∧ ((s[k]).toNat : Int) ≤ 57) = false := by simpa using h2
            clear h2
            by_cases h3 : ((s[k]).toNat : Int) = 95
            · have HR := Lib.hid (show r = true by rw [HD.out]; simp [h0, h3])
              have e3 : (((s[k]).toNat : Int) == 95) = true := by simp [h3]
              clear h3 h0
              go_wp2_with (go_at_call 57; refine (rowWithin_any _ _ _ _).mono ?_; rintro e w' ⟨rfl, rfl⟩)
              go_round
              case rel => exact ⟨k + 1, by omega, by go_num, Lib.hid (HN.out HR.out)⟩
              case measure => simp [intOf]; omega
            · have HR := Lib.hid (show r = false by rw [HD.out, e2]; unfold lowC; rw [e1]; simp [h3])
              have e3 : (((s[k]).toNat : Int) == 95) = false := by simp [h3]
              clear h3 h0
              go_wp2_with (go_at_call 57; refine (rowWithin_any _ _ _ _).mono ?_; rintro e w' ⟨rfl, rfl⟩)
              go_ret
              exact ⟨by rw [HX.out HR.out]; rfl, rfl⟩
    · obtain rfl : k = s.size := by omega
      have HA := Lib.hid (isName_all HT.out)
      go_wp2_with (go_at_call 57; refine (rowWithin_any _ _ _ _).mono ?_; rintro e w' ⟨rfl, rfl⟩)
      go_ret
      exact ⟨by rw [HA.out, Bool.decide_and]; rfl, rfl⟩

abbrev tStrs : Ty (List ByteArray) := tSlice tStr
theorem str_cell {m : Mem} {xs : List ByteArray} {a : Option Addr} {n cap : Nat} (h : tStrs.rv m [.slice a n cap] xs) {k : Nat} (hk : k < xs.length) :
    ∃ b o, a = some ⟨b, o, none⟩ ∧ m b (o + k) = some (.string xs[k]) ∧ xs[k].size ≤ maxLen := by
  obtain ⟨b, o, rfl, hat⟩ := slice_at h hk
  have e : k * tStr.sz = k := Nat.mul_one k
  rw [e] at hat
  obtain ⟨cs, h1, rfl, h3⟩ := hat
  exact ⟨b, o, rfl, h1 0 _ rfl, h3⟩
set_option maxHeartbeats 1000000 in
theorem indexFuncStr (Fn : FuncId) (capt : Array Value) (p : ByteArray → Bool) (xs : List ByteArray) (v : Value) (w : World) (hv : tStrs.rv (mem w) [v] xs)
    (hcf : ∀ args w, Sem.run Try.prog (callFunc Fn args) w = .ok (.enter Fn args) w)
    (hf : ∀ x : ByteArray, x.size ≤ maxLen → ∀ wr, Below w.heap.size w wr → Calls Try.prog Fn (#[.string x] ++ capt) wr fun e w' => e = .returned (.bool (p x)) ∧ Below wr.heap.size wr w') :
    Calls Try.prog 58 #[v, .func (.func Fn) #[] capt] w fun e w' => e = .returned (.int .i64 (idxOf p xs)) ∧ Below w.heap.size w w' := by
  obtain ⟨a, cap, rfl, hl, hm, hv⟩ := slice_form hv
  have hcap : cap ≤ 9223372036854775807 := by unfold maxLen at hm; exact hm
  clear hm
  have HF := Lib.hid hf
  clear hf
  go_enter Try.func58, Try.ntmps58
  go_wp2
  go_loopw [8] (fun i wr => ∃ k : Nat, k ≤ xs.length ∧ i = .int .i64 k ∧ Hid (∀ x ∈ xs.take k, p x = false) ∧ Below w.heap.size w wr) (fun i _ => xs.length - (intOf i).toNat)
  case atStart => exact ⟨0, by omega, rfl, Lib.hid (by simp), Below.refl _ _⟩
  case round =>
    obtain ⟨k, hk, rfl, HT, hB⟩ := hrel
    by_cases hlt : k < xs.length
    · obtain ⟨b, o, rfl, c0, hin⟩ := str_cell (tStrs.mono _ _ _ _ (below_mem hB) hv) hlt
      have c0 : wr.cell? ⟨b, o + k, none⟩ = some (.string xs[k]) := c0
      have hcall := HF.out xs[k] hin wr hB
      have HI := Lib.hid (show p xs[k] = true → idxOf p xs = k from fun h => idxOf_at hlt h HT.out)
      have HN := Lib.hid (show p xs[k] = false → ∀ x ∈ xs.take (k + 1), p x = false from fun h => mem_take_snoc hlt HT.out h)
      clear hv HF HT
      generalize xs[k] = x at *
      generalize hpx : p x = r at hcall HI HN
      clear hpx
      have HC := Lib.hid hcall
      clear hcall
      go_wp2_with fail
      refine HC.out.mono ?_
      rintro e w1 ⟨rfl, hB1⟩
      have hB2 := pure_trans hB hB1
      clear HC hB hB1 c0
      cases r
      · go_wp2
        go_roundw
        case rel => exact ⟨k + 1, by omega, by go_num, Lib.hid (HN.out (by trivial)), hB2⟩
        case measure => simp [intOf]; omega
      · go_wp2
        go_ret
        exact ⟨by rw [HI.out (by trivial)]; rfl, hB2⟩
    · obtain rfl : k = xs.length := by omega
      have HX := Lib.hid (idxOf_none (p := p) (l := xs) (fun x hx => HT.out x (by rw [List.take_length]; exact hx)))
      go_wp2
      go_ret
      exact ⟨by rw [HX.out]; rfl, hB⟩
set_option maxHeartbeats 1000000 in
theorem containsFuncStr (Fn : FuncId) (capt : Array Value) (p : ByteArray → Bool) (xs : List ByteArray) (v : Value) (w : World) (hv : tStrs.rv (mem w) [v] xs)
    (hcf : ∀ args w, Sem.run Try.prog (callFunc Fn args) w = .ok (.enter Fn args) w)
    (hf : ∀ x : ByteArray, x.size ≤ maxLen → ∀ wr, Below w.heap.size w wr → Calls Try.prog Fn (#[.string x] ++ capt) wr fun e w' => e = .returned (.bool (p x)) ∧ Below wr.heap.size wr w') :
    Calls Try.prog 41 #[v, .func (.func Fn) #[] capt] w fun e w' => e = .returned (.bool (xs.any p)) ∧ Below w.heap.size w w' := by
  have H := Lib.hid (indexFuncStr Fn capt p xs v w hv hcf hf)
  have HA := Lib.hid (idxOf_any p xs)
  clear hcf hf hv
  generalize idxOf p xs = i at H HA
  go_enter Try.func41, Try.ntmps41
  go_wp2_with fail
  refine H.out.mono ?_
  rintro e w1 ⟨rfl, hB⟩
  go_wp2
  go_ret
  exact ⟨by rw [← HA.out]; rfl, hB⟩

end Go.Proofs.Ytjenfhkikbndmaa
/- Acts of chapter 14's laws; many (printed out of XHAct). -/
namespace Go.Proofs.Ytjenfhkikbndmaa
open Go.RowKit Go.Maps

structure HAct where
  k : Int
  g : Int
  n : Int
  nm : ByteArray
  key : ByteArray
  val : ByteArray
deriving Inhabited
def HAct.okA (x : HAct) : Prop := (0 ≤ x.k ∧ x.k ≤ 255) ∧ inI64 x.g ∧ inI64 x.n ∧ x.nm.size ≤ maxLen ∧ x.key.size ≤ maxLen ∧ x.val.size ≤ maxLen
abbrev HAct.cs (x : HAct) : List Value := [.int .u8 x.k, .int .i64 x.g, .int .i64 x.n, .string x.nm, .string x.key, .string x.val]
def tAct : Ty HAct := ⟨6, fun _ cs x => cs = x.cs ∧ x.okA, fun _ _ _ h => by rw [h.1]; rfl, fun _ _ _ _ _ h => h⟩
abbrev tActs : Ty (List HAct) := tSlice tAct
theorem tAct_flat : tAct.flat := fun _ _ _ _ h => h
def manyA (x : HAct) : Bool := decide (100 < x.nm.size) || decide (200 < x.key.size) || decide (200 < x.val.size)
def manyOf (l : List HAct) : Bool := l.any manyA || decide (60 < l.length)
theorem acts_at {m : Mem} {xs : List HAct} {a : Option Addr} {n cap : Nat} (h : tActs.rv m [.slice a n cap] xs) {k : Nat} (hk : k < xs.length) :
    ∃ b o, a = some ⟨b, o, none⟩ ∧ (∀ j v, xs[k].cs[j]? = some v → m b (o + k * 6 + j) = some v) ∧ xs[k].okA := by
  obtain ⟨b, o, rfl, cs, hat, rfl, hok⟩ := slice_at h hk
  exact ⟨b, o, rfl, hat, hok⟩
set_option maxRecDepth 100000 in
set_option maxHeartbeats 4000000 in
theorem many_any (l : List HAct) (v : Value) (w : World) (hv : tActs.rv (mem w) [v] l) :
    Calls Try.prog 5 #[v] w fun e w' => e = .returned (.bool (manyOf l)) ∧ Below w.heap.size w w' := by
  obtain ⟨a, cap, rfl, hlc, hm, hv⟩ := slice_form hv
  have hcap : cap ≤ 9223372036854775807 := by unfold maxLen at hm; exact hm
  clear hm
  go_enter Try.func5, Try.ntmps5
  go_wp2
  go_loop [3] (fun i => ∃ k : Nat, k ≤ l.length ∧ i = .int .i64 k ∧ Hid (∀ x ∈ l.take k, manyA x = false)) (fun i => l.length - (intOf i).toNat)
  case atStart => exact ⟨0, by omega, rfl, Lib.hid (by simp)⟩
  case round =>
    obtain ⟨k, hk, rfl, HT⟩ := hrel
    by_cases hlt : k < l.length
    · obtain ⟨b, o, rfl, hat, hok⟩ := acts_at hv hlt
      have HX := Lib.hid (show manyA l[k] = true → manyOf l = true from fun h => by
        unfold manyOf
        rw [show l.any manyA = true from List.any_eq_true.2 ⟨_, List.getElem_mem hlt, h⟩]; rfl)
      have HN := Lib.hid (show manyA l[k] = false → ∀ x ∈ l.take (k + 1), manyA x = false from fun h => mem_take_snoc hlt HT.out h)
      have c3 : w.cell? ⟨b, o + k * 6 + 3, none⟩ = some (.string l[k].nm) := hat 3 _ rfl
      have c4 : w.cell? ⟨b, o + k * 6 + 4, none⟩ = some (.string l[k].key) := hat 4 _ rfl
      have c5 : w.cell? ⟨b, o + k * 6 + 5, none⟩ = some (.string l[k].val) := hat 5 _ rfl
      obtain ⟨_, _, _, s3, s4, s5⟩ := hok
      unfold maxLen at s3 s4 s5
      clear hat HT hv
      generalize hx : l[k] = x at *
      clear hx
      by_cases h1 : (100 : Int) < x.nm.size
      · have HM := Lib.hid (HX.out (by unfold manyA; rw [decide_eq_true (show 100 < x.nm.size by omega)]; rfl))
        clear HX HN
        go_wp2
        go_ret
        exact ⟨by rw [HM.out] <;> rfl, Below.refl _ _⟩
      · by_cases h2 : (200 : Int) < x.key.size
        · have HM := Lib.hid (HX.out (by unfold manyA; rw [decide_eq_true (show 200 < x.key.size by omega)]; simp))
          clear HX HN
          go_wp2
          go_ret
          exact ⟨by rw [HM.out] <;> rfl, Below.refl _ _⟩
        · by_cases h3 : (200 : Int) < x.val.size
          · have HM := Lib.hid (HX.out (by unfold manyA; rw [decide_eq_true (show 200 < x.val.size by omega)]; simp))
            clear HX HN
            go_wp2
            go_ret
            exact ⟨by rw [HM.out] <;> rfl, Below.refl _ _⟩
          · have HM := Lib.hid (HN.out (by unfold manyA; rw [decide_eq_false (show ¬ 100 < x.nm.size by omega), decide_eq_false (show ¬ 200 < x.key.size by omega), decide_eq_false (show ¬ 200 < x.val.size by omega)]; rfl))
            clear HX HN
            go_wp2
            go_round
            case rel => exact ⟨k + 1, by omega, by go_num, HM⟩
            case measure => simp [intOf]; omega
    · obtain rfl : k = l.length := by omega
      have HA := Lib.hid (show l.any manyA = false from List.any_eq_false.2 fun x hx => by have := HT.out x (by rw [List.take_length]; exact hx); simp [this])
      clear HT hv
      by_cases h6 : (60 : Int) < l.length
      · have HM := Lib.hid (show manyOf l = true by unfold manyOf; rw [decide_eq_true (show 60 < l.length by omega)]; simp)
        go_wp2
        go_ret
        exact ⟨by rw [HM.out] <;> rfl, Below.refl _ _⟩
      · have HM := Lib.hid (show manyOf l = false by unfold manyOf; rw [decide_eq_false (show ¬ 60 < l.length by omega), HA.out]; rfl)
        go_wp2
        go_ret
        exact ⟨by rw [HM.out] <;> rfl, Below.refl _ _⟩
end Go.Proofs.Ytjenfhkikbndmaa
/- The steps of a slab's state in memory (for chapter 14). -/
namespace Go.Proofs.Ytjenfhkikbndmaa
open Go.RowKit Go.Maps
section
variable {W W' : World} {base p : Nat} {r r' : HL}
/-- What is readable, with blocks more. -/
noncomputable def Mem.ext (M : Mem) (W : World) (T : Nat → Prop) : Mem := (mem W).on (fun b => (∃ o v, M b o = some v) ∨ T b)
theorem ext_le {M : Mem} (hM : M.le (mem W)) (T : Nat → Prop) : M.le (M.ext W T) := fun b o v e => Mem.on_some (hM b o v e) (.inl ⟨o, v, e⟩)
theorem ext_new (M : Mem) (W : World) (T : Nat → Prop) : ((mem W).on T).le (M.ext W T) := Mem.on_mono _ (fun _ h => .inr h)
theorem ext_of {M : Mem} {T : Nat → Prop} {b o : Nat} {v : Value} (e : M.ext W T b o = some v) : ((∃ o v, M b o = some v) ∨ T b) ∧ mem W b o = some v := Mem.of_on e
/-- New blocks become readable. -/
theorem LStep.grow (h : LStep W base p r W' r') (T : Nat → Prop) (hT : ∀ b, T b → (W.heap.size ≤ b ∨ mutL p r b) ∧ ¬ mutL p r' b) : LStep W base p r W' { r' with M := r'.M.ext W' T } := by
  have hM : r'.M.le (r'.M.ext W' T) := ext_le h.inv.ml T
  have i := h.inv
  have hk0 : Keeps (fun _ => False) W' W' := Keeps.refl _ _
  refine ⟨⟨i.hb, i.tb, ?_, ?_, i.km, fun n hn => ?_, i.inj, i.adl, i.ne, fun b o v e => ?_, i.ge, i.bw⟩, h.kp, h.mb, fun b o v e => ?_, Mem.le_trans h.ml hM, h.al⟩
  · exact i.lbK (r' := { r' with M := r'.M.ext W' T }) hk0 (fun _ _ h => h) hM (adLe.refl _)
  · exact i.smK (r' := { r' with M := r'.M.ext W' T }) rfl hM (adLe.refl _) rfl
  · exact i.rnK (r' := { r' with M := r'.M.ext W' T }) hn hk0 (fun _ _ h => h) hM (adLe.refl _)
  · obtain ⟨h1, h2⟩ := ext_of e
    refine ⟨h2, ?_⟩
    rcases h1 with ⟨o', v', h3⟩ | h3
    · exact (i.ms b o' v' h3).2
    · exact (hT b h3).2
  · obtain ⟨h1, h2⟩ := ext_of e
    rcases h1 with ⟨o', v', h3⟩ | h3
    · exact h.md b o' v' h3
    · exact .inr (hT b h3).1.symm
/-- The State's own cells change: what they say of numbers. -/
theorem LStep.own (h : LInv W base p r) (hk : Keeps (fun k => k = p) W W') (s : LS) (e1 : s.table = r.s.table) (e2 : s.lv = r.s.lv) (e3 : s.sn = r.s.sn) (e4 : s.kept = r.s.kept) (e5 : s.rc = r.s.rc) (e6 : s.use = r.s.use) (e7 : r.s.runs ≤ s.runs) (tc : Value)
    (hb : W'.heap[p]? = some (.cells (lCells { r with s := s, tc := tc }) 65 (0, 0))) : LStep W base p r W' { r with s := s, tc := tc } := by
  have hmm : ∀ b, mutL p { r with s := s, tc := tc } b → mutL p r b := fun b hb => by
    unfold mutL at hb ⊢
    simp only [e4] at hb
    exact hb
  have hkm : Keeps (mutL p r) W W' := hk.wide (fun k _ e => .inl e)
  have hp := h.kP
  refine LStep.build h hkm (fun b e => .inl (hmm b e)) hb ?_ ?_ ?_ ?_ (fun n hn => ?_) h.inj (fun n a e => ?_) h.ne (h.msKeep (r' := { r with s := s, tc := tc }) hkm (fun b e => .inl (hmm b e))) (fun b o v e => .inl ⟨o, v, e⟩) (Mem.le_refl _) (adLe.refl _)
  · show OwnsT W' base r.tv s.table
    rw [e1]
    exact h.tbK hk (fun k e => kd_ne (h.kT e) hp (by decide))
  · show OwnsL r W' base r.lvv s.lv
    rw [e2]
    exact h.lbK hk (fun k e => kd_ne (h.kL e) hp (by decide)) (Mem.le_refl _) (adLe.refl _)
  · exact h.smK (r' := { r with s := s, tc := tc }) (hk.block _ h.sm.lt (kd_ne h.kS hp (by decide))) (Mem.le_refl _) (adLe.refl _) e3
  · exact h.kmK (r' := { r with s := s, tc := tc }) (hk.block _ h.km.lt (kd_ne h.kK hp (by decide))) (adLe.refl _) e4
  · have hn' : n ∈ r.s.kept := e4 ▸ hn
    show ∃ a, r.ad n = some a ∧ RunAt W' r.M a n (s.rc n) (s.use n)
    rw [e5, e6]
    exact h.rnK hn' hk (fun a e => kd_ne (h.kR hn' e) hp (by decide)) (Mem.le_refl _) (adLe.refl _)
  · have := h.adl n a e
    exact ⟨Nat.le_trans this.1 e7, Nat.lt_of_lt_of_le this.2 hk.size⟩
/-- A run's uses change. -/
theorem LStep.setUse (h : LInv W base p r) {n a : Nat} (hn : n ∈ r.s.kept) (ha : r.ad n = some a) (u : Int) : LStep W base p r (W.setCell ⟨a, 2, none⟩ (.int .i64 u)) { r with s := { r.s with use := updN r.s.use n u } } := by
  have hk : Keeps (fun k => k = a) W (W.setCell ⟨a, 2, none⟩ (.int .i64 u)) := (Keeps.refl (fun k => k = a) W).setCell (p := ⟨a, 2, none⟩) (fun _ => rfl) _
  have hkm : Keeps (mutL p r) W (W.setCell ⟨a, 2, none⟩ (.int .i64 u)) := hk.wide (fun k _ e => e ▸ .inr (.inr (.inr (.inr (.inr ⟨n, hn, ha⟩)))))
  have hr := h.kR hn ha
  have hat : ∀ b, b ≠ a → b < W.heap.size → (W.setCell ⟨a, 2, none⟩ (.int .i64 u)).heap[b]? = W.heap[b]? := fun b hb hl => hk.block b hl hb
  refine LStep.build h hkm (fun b e => .inl e) ((hat p (kd_ne h.kP hr (by decide)) (h.kind p (.inl rfl))).trans h.hb) (h.tbK hk (fun k e => kd_ne (h.kT e) hr (by decide)))
    (h.lbK (r' := { r with s := { r.s with use := updN r.s.use n u } }) hk (fun k e => kd_ne (h.kL e) hr (by decide)) (Mem.le_refl _) (adLe.refl _)) (h.smK (r' := { r with s := { r.s with use := updN r.s.use n u } }) (hat _ (kd_ne h.kS hr (by decide)) h.sm.lt) (Mem.le_refl _) (adLe.refl _) rfl)
    (h.kmK (r' := { r with s := { r.s with use := updN r.s.use n u } }) (hat _ (kd_ne h.kK hr (by decide)) h.km.lt) (adLe.refl _) rfl) (fun m hm => ?_) h.inj (fun m b e => ⟨(h.adl m b e).1, Nat.lt_of_lt_of_le (h.adl m b e).2 hk.size⟩) h.ne
    (h.msKeep (r' := { r with s := { r.s with use := updN r.s.use n u } }) hkm (fun b e => .inl e)) (fun b o v e => .inl ⟨o, v, e⟩) (Mem.le_refl _) (adLe.refl _)
  show ∃ b, r.ad m = some b ∧ RunAt _ r.M b m (r.s.rc m) (updN r.s.use n u m)
  by_cases e : m = n
  · subst e
    obtain ⟨v, h1, h2⟩ := h.run hn ha
    rw [updN_same]
    exact ⟨a, ha, v, setS h1, h2⟩
  · rw [updN_other _ _ e]
    exact h.rnK hm hk (fun b hb hba => e (h.inj m n a (hba ▸ hb) ha)) (Mem.le_refl _) (adLe.refl _)
theorem keptF_less (s : LS) (n : Nat) : lessAt (keptF s) (n : Int) = keptF { s with kept := s.kept.filter (fun m => m != n) } := by
  funext k
  by_cases e : k = n
  · subst e
    rw [lessAt_same, keptF_none (by simp)]
  · rw [lessAt_other _ e]
    unfold keptF
    by_cases hk : 0 ≤ k ∧ k.toNat ∈ s.kept
    · rw [if_pos hk, if_pos ⟨hk.1, List.mem_filter.2 ⟨hk.2, by simp; omega⟩⟩]
    · rw [if_neg hk, if_neg (fun h => hk ⟨h.1, (List.mem_filter.1 h.2).1⟩)]
theorem grown_keepsS {W W' : World} {b : Nat} (h : W.grownBy W' (some b)) : Keeps (fun k => k = b) W W' := (grown_keeps h).wide (fun k _ e => by injection e)
/-- A run is kept no longer. -/
theorem LStep.unkeep (h : LInv W base p r) {n : Nat} (hin : inI64 (n : Int)) (ty : TypeId) :
    ∃ W', (Builtin.delete_ #[63, 3] ty #[.map (some r.kb), .int .i64 n]).run Try.prog W = .ok (.tuple #[]) W' ∧ LStep W base p r W' { r with s := { r.s with kept := r.s.kept.filter (fun m => m != n) } } := by
  obtain ⟨W', hrun, hm, hg⟩ := h.km.drop Try.underlying63 hin ty
  rw [keptF_less] at hm
  have hk := grown_keepsS hg
  refine ⟨W', hrun, ?_⟩
  have hkm : Keeps (mutL p r) W W' := hk.wide (fun k _ e => e ▸ .inr (.inr (.inl rfl)))
  have hq := h.kK
  have hmm : ∀ b, mutL p { r with s := { r.s with kept := r.s.kept.filter (fun m => m != n) } } b → mutL p r b := fun b hb => by
    rcases hb with e | e | e | e | e | ⟨m, hm, e⟩
    · exact .inl e
    · exact .inr (.inl e)
    · exact .inr (.inr (.inl e))
    · exact .inr (.inr (.inr (.inl e)))
    · exact .inr (.inr (.inr (.inr (.inl e))))
    · exact .inr (.inr (.inr (.inr (.inr ⟨m, (List.mem_filter.1 hm).1, e⟩))))
  refine LStep.build h hkm (fun b e => .inl (hmm b e)) ((hk.block p (h.kind p (.inl rfl)) (kd_ne h.kP hq (by decide))).trans h.hb) (h.tbK hk (fun k e => kd_ne (h.kT e) hq (by decide)))
    (h.lbK (r' := { r with s := { r.s with kept := r.s.kept.filter (fun m => m != n) } }) hk (fun k e => kd_ne (h.kL e) hq (by decide)) (Mem.le_refl _) (adLe.refl _))
    (h.smK (r' := { r with s := { r.s with kept := r.s.kept.filter (fun m => m != n) } }) (hk.block _ h.sm.lt h.ne) (Mem.le_refl _) (adLe.refl _) rfl) hm
    (fun m hm' => h.rnK (r' := { r with s := { r.s with kept := r.s.kept.filter (fun m => m != n) } }) (List.mem_filter.1 hm').1 hk (fun b hb => kd_ne (h.kR (List.mem_filter.1 hm').1 hb) hq (by decide)) (Mem.le_refl _) (adLe.refl _)) h.inj
    (fun m b e => ⟨(h.adl m b e).1, Nat.lt_of_lt_of_le (h.adl m b e).2 hk.size⟩) h.ne (h.msKeep (r' := { r with s := { r.s with kept := r.s.kept.filter (fun m => m != n) } }) hkm (fun b e => .inl (hmm b e))) (fun b o v e => .inl ⟨o, v, e⟩) (Mem.le_refl _) (adLe.refl _)
end
end Go.Proofs.Ytjenfhkikbndmaa
/- More steps of a slab's state in memory: a new run, the table, the levels (for chapter 14). -/
namespace Go.Proofs.Ytjenfhkikbndmaa
open Go.RowKit Go.Maps
def LS.made (s : LS) (l : List RecS) : LS := { s with runs := s.runs + 1, kept := s.kept ++ [s.runs + 1], rc := updN s.rc (s.runs + 1) l, use := updN s.use (s.runs + 1) 1 }
theorem keptF_put (s : LS) (n : Nat) : putAt (keptF s) (n : Int) n = keptF { s with kept := s.kept ++ [n] } := by
  funext k
  by_cases e : k = n
  · subst e
    rw [putAt_same, keptF_some (by simp)]
  · rw [putAt_other _ _ e]
    unfold keptF
    by_cases hk : 0 ≤ k ∧ k.toNat ∈ s.kept
    · rw [if_pos hk, if_pos ⟨hk.1, List.mem_append.2 (.inl hk.2)⟩]
    · rw [if_neg hk, if_neg (fun h => ?_)]
      rcases List.mem_append.1 h.2 with h2 | h2
      · exact hk ⟨h.1, h2⟩
      · have := List.mem_singleton.1 h2; omega
theorem adUpd {ad : Nat → Option Nat} {n a : Nat} (h : ∀ b, ad n ≠ some b) : adLe ad (updN ad n (some a)) := fun m b e => by
  by_cases hm : m = n
  · subst hm; exact absurd e (h b)
  · rw [updN_other _ _ hm]; exact e
theorem updN_inv {f : Nat → Option Nat} {n a m b : Nat} (e : updN f n (some a) m = some b) : (m = n ∧ a = b) ∨ (m ≠ n ∧ f m = some b) := by
  by_cases h : m = n
  · subst h; rw [updN_same] at e; injection e with e; exact .inl ⟨rfl, e⟩
  · rw [updN_other _ _ h] at e; exact .inr ⟨h, e⟩
section
variable {W W' X : World} {base p : Nat} {r r' r0 : HL}
/-- The run just made is kept. -/
theorem LStep.keepNew (h : LStep W base p r0 X r) (hi : LInv W base p r0) {a n : Nat} {v : Value} {l : List RecS} (hn : n = r.s.runs) (hnn : r.nn < maxLen) (hin : inI64 (n : Int)) (had : ∀ b, r.ad n ≠ some b) (ha : X.heap[a]? = some (.cells #[.int .i64 n, v, .int .i64 1] 97 (0, 0)))
    (haW : W.heap.size ≤ a) (hM : ∀ o v, r.M a o ≠ some v) (haa : ∀ m, r.ad m ≠ some a) (hv : tRecSs.rv r.M [v] l) :
    ∃ X', (Instr.mapUpdate 63 (.map (some r.kb)) (.int .i64 n) (ptrS a)).run Try.prog X = .ok () X' ∧ LStep W base p r0 X' { r with s := { r.s with kept := r.s.kept ++ [n], rc := updN r.s.rc n l, use := updN r.s.use n 1 }, ad := updN r.ad n (some a), nn := r.nn + 1 } := by
  have i := h.inv
  have hal := adUpd (a := a) had
  have km1 : IMap (vRn (updN r.ad n (some a))) X r.kb r.nn (keptF r.s) := i.km.re rfl (fun _ hx => hx) (fun k x hx => ⟨x, hx, fun v ⟨b, h1, h2⟩ => ⟨b, hal _ _ h1, h2⟩⟩)
  obtain ⟨X', hrun, hm, hg⟩ := km1.put Try.underlying63 hnn hin (ptrS a) n ⟨a, updN_same _ _ _, rfl⟩
  rw [keptF_put] at hm
  have hk := grown_keepsS hg
  have hq := i.kK
  have hax : a < X.heap.size := (Array.getElem?_eq_some_iff.1 ha).1
  have hakd : kd X a = some 97 := kd_cells ha
  refine ⟨X', hrun, ?_⟩
  have hmm : ∀ b, mutL p { r with s := { r.s with kept := r.s.kept ++ [n], rc := updN r.s.rc n l, use := updN r.s.use n 1 }, ad := updN r.ad n (some a), nn := r.nn + 1 } b → mutL p r b ∨ b = a := fun b hb => by
    rcases hb with e | e | e | e | e | ⟨m, hm, e⟩
    · exact .inl (.inl e)
    · exact .inl (.inr (.inl e))
    · exact .inl (.inr (.inr (.inl e)))
    · exact .inl (.inr (.inr (.inr (.inl e))))
    · exact .inl (.inr (.inr (.inr (.inr (.inl e)))))
    · rcases updN_inv (f := r.ad) e with ⟨hmn, e⟩ | ⟨hmn, e⟩
      · exact .inr e.symm
      · rcases List.mem_append.1 hm with h2 | h2
        · exact .inl (.inr (.inr (.inr (.inr (.inr ⟨m, h2, e⟩)))))
        · exact absurd (List.mem_singleton.1 h2) hmn
  have hmW : ∀ b, mutL p r b ∨ b = a → mutL p r0 b ∨ W.heap.size ≤ b := fun b hb => hb.elim (h.mb b) (fun e => .inr (by omega))
  refine ⟨⟨(hk.block p (i.kind p (.inl rfl)) (kd_ne i.kP hq (by decide))).trans i.hb, i.tbK hk (fun k e => kd_ne (i.kT e) hq (by decide)), ?_, ?_, hm, fun m hm' => ?_, fun m1 m2 b e1 e2 => ?_, fun m b e => ?_, i.ne, fun b o v e => ?_, fun b hb => ?_, Nat.le_trans i.bw hk.size⟩, ?_, fun b hb => hmW b (hmm b hb), h.md, h.ml, fun m b e => hal m b (h.al m b e)⟩
  · exact i.lbK (r' := { r with s := { r.s with kept := r.s.kept ++ [n], rc := updN r.s.rc n l, use := updN r.s.use n 1 }, ad := updN r.ad n (some a), nn := r.nn + 1 }) hk (fun k e => kd_ne (i.kL e) hq (by decide)) (Mem.le_refl _) hal
  · exact (i.smK (r' := { r with s := { r.s with kept := r.s.kept ++ [n], rc := updN r.s.rc n l, use := updN r.s.use n 1 }, ad := updN r.ad n (some a), nn := r.nn + 1 }) (hk.block _ i.sm.lt i.ne) (Mem.le_refl _) hal rfl).mono (Nat.le_succ _)
  · show ∃ b, updN r.ad n (some a) m = some b ∧ RunAt X' r.M b m (updN r.s.rc n l m) (updN r.s.use n 1 m)
    by_cases hmn : m = n
    · subst hmn
      rw [updN_same, updN_same, updN_same]
      exact ⟨a, rfl, v, (hk.block a hax (kd_ne hakd hq (by decide))).trans ha, hv⟩
    · rw [updN_other _ _ hmn, updN_other _ _ hmn, updN_other _ _ hmn]
      have hm2 : m ∈ r.s.kept := by
        rcases List.mem_append.1 hm' with h2 | h2
        · exact h2
        · exact absurd (List.mem_singleton.1 h2) hmn
      exact i.rnK (r' := r) hm2 hk (fun b hb => kd_ne (i.kR hm2 hb) hq (by decide)) (Mem.le_refl _) (adLe.refl _)
  · rcases updN_inv (f := r.ad) e1 with ⟨h1, e1⟩ | ⟨h1, e1⟩ <;> rcases updN_inv (f := r.ad) e2 with ⟨h2, e2⟩ | ⟨h2, e2⟩
    · omega
    · exact absurd (e1 ▸ e2) (haa m2)
    · exact absurd (e2 ▸ e1) (haa m1)
    · exact i.inj m1 m2 b e1 e2
  · rcases updN_inv (f := r.ad) e with ⟨hmn, e⟩ | ⟨hmn, e⟩
    · subst e
      exact ⟨by rw [hmn]; exact Nat.le_of_eq hn, Nat.lt_of_lt_of_le hax hk.size⟩
    · exact ⟨(i.adl m b e).1, Nat.lt_of_lt_of_le (i.adl m b e).2 hk.size⟩
  · obtain ⟨h1, h2⟩ := i.ms b o v e
    refine ⟨(mem_of_block (hk.block b (mem_lt h1) (fun e2 => h2 (e2 ▸ .inr (.inr (.inl rfl))))) o).trans h1, fun hx => ?_⟩
    rcases hmm b hx with h3 | h3
    · exact h2 h3
    · subst h3; exact hM o v e
  · rcases hmm b hb with h3 | h3
    · exact i.ge b h3
    · have := hi.bw; omega
  · refine ⟨hk.os.trans h.kp.os, hk.tape.trans h.kp.tape, hk.output.trans h.kp.output, Nat.le_trans h.kp.size hk.size, fun b h1 h2 => (hk.block b (Nat.lt_of_lt_of_le h1 h.kp.size) (fun e => ?_)).trans (h.kp.block b h1 h2)⟩
    rcases h.mb b (e ▸ .inr (.inr (.inl rfl))) with h3 | h3
    · exact h2 h3
    · omega
/-- The table's row is a run's from now on. -/
theorem LStep.letTable (h : LInv W base p r) : LStep W base p r W { r with s := { r.s with table := [] }, tv := .slice none 0 0, M := r.M.ext W (fun b => r.tv.ownBlock = some b) } := by
  have hM : r.M.le (r.M.ext W (fun b => r.tv.ownBlock = some b)) := ext_le h.ml _
  have hk0 : Keeps (fun _ => False) W W := Keeps.refl _ _
  have hmm : ∀ b, mutL p { r with s := { r.s with table := [] }, tv := .slice none 0 0, M := r.M.ext W (fun b => r.tv.ownBlock = some b) } b → mutL p r b ∧ r.tv.ownBlock ≠ some b := fun b hb => by
    rcases hb with e | e | e | e | e | ⟨m, hm, e⟩
    · exact ⟨.inl e, fun h2 => kd_ne (h.kT h2) h.kP (by decide) e⟩
    · exact ⟨.inr (.inl e), fun h2 => kd_ne (h.kT h2) h.kS (by decide) e⟩
    · exact ⟨.inr (.inr (.inl e)), fun h2 => kd_ne (h.kT h2) h.kK (by decide) e⟩
    · cases e
    · exact ⟨.inr (.inr (.inr (.inr (.inl e)))), fun h2 => kd_ne (h.kT h2) (h.kL e) (by decide) rfl⟩
    · exact ⟨.inr (.inr (.inr (.inr (.inr ⟨m, hm, e⟩)))), fun h2 => kd_ne (h.kT h2) (h.kR hm e) (by decide) rfl⟩
  refine LStep.build h (Keeps.refl _ _) (fun b e => .inl (hmm b e).1) h.hb (Owns.nil _ _ _ _) ?_ ?_ h.km (fun n hn => ?_) h.inj h.adl h.ne (fun b o v e => ?_) (fun b o v e => ?_) hM (adLe.refl _)
  · exact h.lbK (r' := { r with s := { r.s with table := [] }, tv := .slice none 0 0, M := r.M.ext W (fun b => r.tv.ownBlock = some b) }) hk0 (fun _ _ h => h) hM (adLe.refl _)
  · exact h.smK (r' := { r with s := { r.s with table := [] }, tv := .slice none 0 0, M := r.M.ext W (fun b => r.tv.ownBlock = some b) }) rfl hM (adLe.refl _) rfl
  · exact h.rnK (r' := { r with s := { r.s with table := [] }, tv := .slice none 0 0, M := r.M.ext W (fun b => r.tv.ownBlock = some b) }) hn hk0 (fun _ _ h => h) hM (adLe.refl _)
  · obtain ⟨h1, h2⟩ := ext_of (M := r.M) (T := fun b => r.tv.ownBlock = some b) e
    refine ⟨h2, fun hx => ?_⟩
    rcases h1 with ⟨o', v', h3⟩ | h3
    · exact (h.ms b o' v' h3).2 (hmm b hx).1
    · exact (hmm b hx).2 h3
  · obtain ⟨h1, h2⟩ := ext_of (M := r.M) (T := fun b => r.tv.ownBlock = some b) e
    rcases h1 with h3 | h3
    · exact .inl h3
    · exact .inr (.inl (.inr (.inr (.inr (.inl h3)))))
theorem letTable_rv (h : LInv W base p r) : tRecSs.rv (r.M.ext W (fun b => r.tv.ownBlock = some b)) [r.tv] r.s.table := by
  refine tRecSs.mono _ _ _ _ (ext_new _ _ _) ?_
  obtain ⟨css, h1, ⟨h2, h3⟩, h4, h5⟩ := h.tb
  rcases h3 with ⟨e, h6⟩ | ⟨g, cap, cur, e, hg, hh, hn, hm, hc, ht⟩
  · rw [e, List.eq_nil_of_length_eq_zero h6]
    exact slice_nil _ _
  · have h7 : Owns tRecS W g 54 r.tv r.s.table := ⟨css, h1, ⟨h2, .inr ⟨g, cap, cur, e, Nat.le_refl _, hh, hn, hm, hc, ht⟩⟩, h4, h5⟩
    have h8 : tRecSs.rv ((mem W).on (fun b => g ≤ b)) [r.tv] r.s.table := h7.rv (fun _ h => h) (fun _ _ _ h => h)
    obtain ⟨a, c, e2, g1, g2, g3⟩ := h8
    refine ⟨a, c, e2, g1, g2, fun hp => ?_⟩
    obtain ⟨b, o, ea, hat⟩ := g3 hp
    refine ⟨b, o, ea, fun k hk => ?_⟩
    obtain ⟨cs, hc1, hc2⟩ := hat k hk
    have hbg : r.tv.ownBlock = some b := by
      simp only [List.cons.injEq, and_true] at e2
      rw [e2, ea]; rfl
    exact ⟨cs, fun j u hj => Mem.on_some (Mem.of_on (hc1 j u hj)).2 hbg, hc2⟩
/-- The table is another one. -/
theorem LStep.setTable (h : LInv W base p r) (hk : Keeps (fun k => k = p ∨ r.tv.ownBlock = some k) W W') (tv : Value) (l : List RecS) (hm : ∀ k, tv.ownBlock = some k → r.tv.ownBlock = some k ∨ W.heap.size ≤ k) (tb : OwnsT W' base tv l)
    (hb : W'.heap[p]? = some (.cells (lCells { r with tc := tv }) 65 (0, 0))) : LStep W base p r W' { r with s := { r.s with table := l }, tv := tv, tc := tv } := by
  have hkm : Keeps (mutL p r) W W' := hk.wide (fun k _ e => e.elim .inl (fun e => .inr (.inr (.inr (.inl e)))))
  have hmm : ∀ b, mutL p { r with s := { r.s with table := l }, tv := tv, tc := tv } b → mutL p r b ∨ W.heap.size ≤ b := fun b hb => by
    rcases hb with e | e | e | e | e | ⟨m, hm, e⟩
    · exact .inl (.inl e)
    · exact .inl (.inr (.inl e))
    · exact .inl (.inr (.inr (.inl e)))
    · exact (hm b e).elim (fun e => .inl (.inr (.inr (.inr (.inl e))))) .inr
    · exact .inl (.inr (.inr (.inr (.inr (.inl e)))))
    · exact .inl (.inr (.inr (.inr (.inr (.inr ⟨m, hm, e⟩)))))
  have hF : ∀ b t, kd W b = t → t ≠ some 65 → t ≠ some 54 → ¬ (b = p ∨ r.tv.ownBlock = some b) := fun b t h1 h2 h3 e => by
    rcases e with e | e
    · exact kd_ne h1 h.kP h2 e
    · exact kd_ne h1 (h.kT e) h3 rfl
  refine LStep.build h hkm hmm hb tb ?_ ?_ ?_ (fun n hn => ?_) h.inj (fun n a e => ⟨(h.adl n a e).1, Nat.lt_of_lt_of_le (h.adl n a e).2 hk.size⟩) h.ne (h.msKeep (r' := { r with s := { r.s with table := l }, tv := tv, tc := tv }) hkm hmm) (fun b o v e => .inl ⟨o, v, e⟩) (Mem.le_refl _) (adLe.refl _)
  · exact h.lbK (r' := r) hk (fun k e => hF k _ (h.kL e) (by decide) (by decide)) (Mem.le_refl _) (adLe.refl _)
  · exact h.smK (r' := { r with s := { r.s with table := l }, tv := tv, tc := tv }) (hk.block _ h.sm.lt (hF _ _ h.kS (by decide) (by decide))) (Mem.le_refl _) (adLe.refl _) rfl
  · exact h.kmK (r' := { r with s := { r.s with table := l }, tv := tv, tc := tv }) (hk.block _ h.km.lt (hF _ _ h.kK (by decide) (by decide))) (adLe.refl _) rfl
  · exact h.rnK (r' := { r with s := { r.s with table := l }, tv := tv, tc := tv }) hn hk (fun b hb => hF b _ (h.kR hn hb) (by decide) (by decide)) (Mem.le_refl _) (adLe.refl _)
/-- The levels are others. -/
theorem LStep.setLevels (h : LInv W base p r) (hk : Keeps (fun k => k = p ∨ r.lvv.ownBlock = some k) W W') (v : Value) (l : List (List Nat)) (hm : ∀ k, v.ownBlock = some k → r.lvv.ownBlock = some k ∨ W.heap.size ≤ k) (lb : OwnsL r W' base v l)
    (hb : W'.heap[p]? = some (.cells (lCells { r with lvv := v }) 65 (0, 0))) : LStep W base p r W' { r with s := { r.s with lv := l }, lvv := v } := by
  have hkm : Keeps (mutL p r) W W' := hk.wide (fun k _ e => e.elim .inl (fun e => .inr (.inr (.inr (.inr (.inl e))))))
  have hmm : ∀ b, mutL p { r with s := { r.s with lv := l }, lvv := v } b → mutL p r b ∨ W.heap.size ≤ b := fun b hb => by
    rcases hb with e | e | e | e | e | ⟨m, hm, e⟩
    · exact .inl (.inl e)
    · exact .inl (.inr (.inl e))
    · exact .inl (.inr (.inr (.inl e)))
    · exact .inl (.inr (.inr (.inr (.inl e))))
    · exact (hm b e).elim (fun e => .inl (.inr (.inr (.inr (.inr (.inl e)))))) .inr
    · exact .inl (.inr (.inr (.inr (.inr (.inr ⟨m, hm, e⟩)))))
  have hF : ∀ b t, kd W b = t → t ≠ some 65 → t ≠ some 72 → ¬ (b = p ∨ r.lvv.ownBlock = some b) := fun b t h1 h2 h3 e => by
    rcases e with e | e
    · exact kd_ne h1 h.kP h2 e
    · exact kd_ne h1 (h.kL e) h3 rfl
  refine LStep.build h hkm hmm hb ?_ lb ?_ ?_ (fun n hn => ?_) h.inj (fun n a e => ⟨(h.adl n a e).1, Nat.lt_of_lt_of_le (h.adl n a e).2 hk.size⟩) h.ne (h.msKeep (r' := { r with s := { r.s with lv := l }, lvv := v }) hkm hmm) (fun b o v e => .inl ⟨o, v, e⟩) (Mem.le_refl _) (adLe.refl _)
  · exact h.tbK hk (fun k e => hF k _ (h.kT e) (by decide) (by decide))
  · exact h.smK (r' := { r with s := { r.s with lv := l }, lvv := v }) (hk.block _ h.sm.lt (hF _ _ h.kS (by decide) (by decide))) (Mem.le_refl _) (adLe.refl _) rfl
  · exact h.kmK (r' := { r with s := { r.s with lv := l }, lvv := v }) (hk.block _ h.km.lt (hF _ _ h.kK (by decide) (by decide))) (adLe.refl _) rfl
  · exact h.rnK (r' := { r with s := { r.s with lv := l }, lvv := v }) hn hk (fun b hb => hF b _ (h.kR hn hb) (by decide) (by decide)) (Mem.le_refl _) (adLe.refl _)
end
end Go.Proofs.Ytjenfhkikbndmaa
/- How merged goes through lists: plain (for chapter 14). No program in sight. -/
namespace Go.Proofs.Ytjenfhkikbndmaa
section
variable {α : Type} {c : α → α → Int}
/-- What is left of lists, from a place in each on. -/
def restL (ls : List (List α)) (nx : List Nat) : List (List α) := List.zipWith (fun l n => l.drop n) ls nx
theorem restL_len {ls : List (List α)} {nx : List Nat} (h : nx.length = ls.length) : (restL ls nx).length = ls.length := by unfold restL; rw [List.length_zipWith]; omega
theorem restL_at {ls : List (List α)} {nx : List Nat} (h : nx.length = ls.length) {i : Nat} (hi : i < (restL ls nx).length) : (restL ls nx)[i] = (ls[i]'(by rw [restL_len h] at hi; exact hi)).drop (nx[i]'(by rw [restL_len h] at hi; omega)) := by
  simp [restL]
theorem restL_zero (ls : List (List α)) : restL ls (List.replicate ls.length 0) = ls := by
  apply List.ext_getElem
  · rw [restL_len (by simp)]
  · intro i h1 h2
    rw [restL_at (by simp) h1]
    simp
theorem restL_asc {ls : List (List α)} {nx : List Nat} (h : nx.length = ls.length) (ha : ∀ l ∈ ls, AscC c l) : ∀ l ∈ restL ls nx, AscC c l := fun l hl => by
  obtain ⟨i, hi, rfl⟩ := List.getElem_of_mem hl
  rw [restL_at h hi]
  exact (ha _ (List.getElem_mem _)).sublist (List.drop_sublist _ _)
/-- The best of the first i lists' heads. -/
def Best (c : α → α → Int) (ls : List (List α)) (nx : List Nat) (i : Nat) (b : Int) : Prop :=
  (b = -1 ∧ ∀ k, (h : k < (restL ls nx).length) → k < i → (restL ls nx)[k] = []) ∨
  ∃ (j : Nat) (r : α) (t : List α) (hj : j < (restL ls nx).length), b = j ∧ j < i ∧ (restL ls nx)[j] = r :: t ∧ (∀ k, (h : k < (restL ls nx).length) → k < i → ∀ z ∈ (restL ls nx)[k], c r z ≤ 0) ∧ (∀ k, (h : k < (restL ls nx).length) → k < j → ∀ z ∈ (restL ls nx)[k], c r z ≠ 0)
theorem Best.start (ls : List (List α)) (nx : List Nat) : Best c ls nx 0 (-1) := .inl ⟨rfl, fun k _ h => absurd h (by omega)⟩
theorem Best.skip {ls : List (List α)} {nx : List Nat} {i : Nat} {b : Int} (h : Best c ls nx i b) (hi : i < (restL ls nx).length) (he : (restL ls nx)[i] = []) : Best c ls nx (i + 1) b := by
  rcases h with ⟨e, h⟩ | ⟨j, r, t, hj, e, hji, h1, h2, h3⟩
  · exact .inl ⟨e, fun k hk hki => by by_cases e : k = i; (subst e; exact he); exact h k hk (by omega)⟩
  · refine .inr ⟨j, r, t, hj, e, by omega, h1, fun k hk hki z hz => ?_, h3⟩
    by_cases e : k = i
    · subst e; rw [he] at hz; cases hz
    · exact h2 k hk (by omega) z hz
variable (hg : Good c)
include hg
theorem asc_head {r z : α} {t : List α} (ha : AscC c (r :: t)) (hz : z ∈ r :: t) : c r z ≤ 0 := by
  rcases List.mem_cons.1 hz with rfl | h
  · rw [hg.refl]; exact Int.le_refl _
  · have := (List.pairwise_cons.1 ha).1 z h; omega
theorem Best.first {ls : List (List α)} {nx : List Nat} {i : Nat} (h : Best c ls nx i (-1)) (hi : i < (restL ls nx).length) (ha : AscC c (restL ls nx)[i]) {r : α} {t : List α} (he : (restL ls nx)[i] = r :: t) : Best c ls nx (i + 1) i := by
  rcases h with ⟨_, h⟩ | ⟨j, r, t, hj, e, _⟩
  · refine .inr ⟨i, r, t, hi, rfl, by omega, he, fun k hk hki z hz => ?_, fun k hk hki z hz => ?_⟩
    · by_cases e : k = i
      · subst e; rw [he] at hz ha; exact asc_head hg ha hz
      · rw [h k hk (by omega)] at hz; cases hz
    · rw [h k hk hki] at hz; cases hz
  · omega
theorem Best.turn {ls : List (List α)} {nx : List Nat} {i j : Nat} (h : Best c ls nx i (j : Int)) (hi : i < (restL ls nx).length) (hj : j < (restL ls nx).length) (ha : AscC c (restL ls nx)[i]) {r q : α} {t u : List α} (he : (restL ls nx)[i] = q :: u) (hr : (restL ls nx)[j] = r :: t) : Best c ls nx (i + 1) (if c q r < 0 then (i : Int) else (j : Int)) := by
  rcases h with ⟨e, _⟩ | ⟨j', r', t', hj', e, hji, h1, h2, h3⟩
  · omega
  obtain rfl : j = j' := by omega
  rw [hr] at h1
  injection h1 with e1 e2
  subst e1; subst e2
  rw [he] at ha
  by_cases hc : c q r < 0
  · rw [if_pos hc]
    refine .inr ⟨i, q, u, hi, rfl, by omega, he, fun k hk hki z hz => ?_, fun k hk hki z hz => ?_⟩
    · by_cases e : k = i
      · subst e; rw [he] at hz; exact asc_head hg ha hz
      · have := h2 k hk (by omega) z hz
        rcases Int.lt_or_eq_of_le this with h | h
        · exact Int.le_of_lt (goodLt hg hc h)
        · exact Int.le_of_lt (goodEqR hg hc h)
    · have := h2 k hk hki z hz
      rcases Int.lt_or_eq_of_le this with h | h
      · have := goodLt hg hc h; omega
      · have := goodEqR hg hc h; omega
  · rw [if_neg hc]
    refine .inr ⟨j, r, t, hj, rfl, by omega, hr, fun k hk hki z hz => ?_, h3⟩
    by_cases e : k = i
    · subst e
      rw [he] at hz
      have h4 := asc_head hg ha hz
      have h5 : c r q ≤ 0 := by have := hg.anti q r; omega
      rcases Int.lt_or_eq_of_le h5 with h | h
      · rcases Int.lt_or_eq_of_le h4 with g | g
        · exact Int.le_of_lt (goodLt hg h g)
        · exact Int.le_of_lt (goodEqR hg h g)
      · rcases Int.lt_or_eq_of_le h4 with g | g
        · exact Int.le_of_lt (goodEqL hg h g)
        · exact Int.le_of_eq (goodEq hg h g)
    · exact h2 k hk (by omega) z hz
omit hg in
/-- The places behind a step. -/
def stepN (c : α → α → Int) (r : α) (ls : List (List α)) (nx : List Nat) : List Nat := List.zipWith (fun l n => match l[n]? with | some x => if c x r = 0 then n + 1 else n | none => n) ls nx
omit hg in
theorem stepN_len {r : α} {ls : List (List α)} {nx : List Nat} (h : nx.length = ls.length) : (stepN c r ls nx).length = ls.length := by unfold stepN; rw [List.length_zipWith]; omega
omit hg in
theorem stepN_rest {r : α} {ls : List (List α)} {nx : List Nat} (h : nx.length = ls.length) : restL ls (stepN c r ls nx) = (restL ls nx).map (dropEq c r) := by
  apply List.ext_getElem
  · rw [restL_len (stepN_len h), List.length_map, restL_len h]
  · intro i h1 h2
    rw [restL_at (stepN_len h) h1, List.getElem_map, restL_at h]
    have hi : i < ls.length := by rw [restL_len (stepN_len h)] at h1; exact h1
    have e : (stepN c r ls nx)[i]'(by rw [stepN_len h]; exact hi) = match ls[i][nx[i]]? with | some x => if c x r = 0 then nx[i] + 1 else nx[i] | none => nx[i] := by unfold stepN; rw [List.getElem_zipWith]
    rw [e]
    by_cases hn : nx[i] < ls[i].length
    · rw [List.getElem?_eq_getElem hn, List.drop_eq_getElem_cons hn, dropEq_cons]
      simp only
      split
      · rfl
      · rw [List.drop_eq_getElem_cons hn]
    · rw [List.getElem?_eq_none (by omega)]
      simp only
      rw [List.drop_of_length_le (by omega)]
      rfl
/-- What a full turn yields. -/
theorem Best.yield {ls : List (List α)} {nx : List Nat} (hl : nx.length = ls.length) (ha : ∀ l ∈ ls, AscC c l) {j : Nat} (h : Best c ls nx ls.length (j : Int)) {r : α} {t : List α} (hj : j < (restL ls nx).length) (hr : (restL ls nx)[j] = r :: t) : mergeC c (restL ls nx) = r :: mergeC c (restL ls (stepN c r ls nx)) := by
  rcases h with ⟨e, _⟩ | ⟨j', r', t', hj', e, hji, h1, h2, h3⟩
  · omega
  obtain rfl : j = j' := by omega
  rw [hr] at h1
  injection h1 with e1 e2
  subst e1; subst e2
  rw [stepN_rest hl]
  refine mergeC_step hg hj (restL_asc hl ha) (by rw [hr]; exact List.mem_cons_self) (fun l hm z hz => ?_) (fun k hk hkj z hz => h3 k hk hkj z hz)
  obtain ⟨k, hk, rfl⟩ := List.getElem_of_mem hm
  exact h2 k hk (by rw [restL_len hl] at hk; exact hk) z hz
omit hg in
theorem Best.none {ls : List (List α)} {nx : List Nat} (hl : nx.length = ls.length) (h : Best c ls nx ls.length (-1)) : mergeC c (restL ls nx) = [] := by
  rcases h with ⟨_, h⟩ | ⟨j, r, t, hj, e, _⟩
  · refine mergeC_none (fun l hm => ?_)
    obtain ⟨k, hk, rfl⟩ := List.getElem_of_mem hm
    exact h k hk (by rw [restL_len hl] at hk; exact hk)
  · omega
omit hg in
theorem stepN_at {r : α} {ls : List (List α)} {nx : List Nat} (h : nx.length = ls.length) {i : Nat} (hi : i < ls.length) (hs : i < (stepN c r ls nx).length := by rw [stepN_len ‹_›]; exact ‹_›) : (stepN c r ls nx)[i] = match ls[i][nx[i]'(by omega)]? with | some x => if c x r = 0 then nx[i]'(by omega) + 1 else nx[i]'(by omega) | none => nx[i]'(by omega) := by
  simp only [stepN, List.getElem_zipWith]
end
/-- The places in the midst of a step. -/
def mixN (s nx : List Nat) (i : Nat) : List Nat := s.take i ++ nx.drop i
theorem mixN_len {s nx : List Nat} (h : s.length = nx.length) (i : Nat) (hi : i ≤ nx.length) : (mixN s nx i).length = nx.length := by unfold mixN; simp; omega
theorem mixN_get? {s nx : List Nat} (h : s.length = nx.length) {i : Nat} (hi : i < nx.length) : (mixN s nx i)[i]? = some nx[i] := by
  unfold mixN
  rw [List.getElem?_append_right (by simp; omega)]
  simp [List.length_take, show min i s.length = i by omega, hi]
theorem mixN_get {s nx : List Nat} (h : s.length = nx.length) {i : Nat} (hi : i < nx.length) (hh : i < (mixN s nx i).length) : (mixN s nx i)[i] = nx[i] := (List.getElem?_eq_some_iff.1 (mixN_get? h hi)).2
theorem mixN_set {s nx : List Nat} (h : s.length = nx.length) {i : Nat} (hi : i < nx.length) (hs : i < s.length) : (mixN s nx i).set i s[i] = mixN s nx (i + 1) := by
  unfold mixN
  rw [List.take_succ_eq_append_getElem hs, List.drop_eq_getElem_cons hi, List.set_append_right _ _ (by simp; omega), List.length_take, Nat.min_eq_left (by omega), Nat.sub_self, List.set_cons_zero, List.append_assoc]
  rfl
theorem mixN_same {s nx : List Nat} (h : s.length = nx.length) {i : Nat} (hi : i < nx.length) (hs : i < s.length) (e : s[i] = nx[i]) : mixN s nx i = mixN s nx (i + 1) := by
  rw [← mixN_set h hi hs, e]
  apply List.ext_getElem?
  intro k
  rw [List.getElem?_set]
  split
  · next e2 => subst e2; rw [mixN_get? h hi, if_pos (by rw [mixN_len h _ (by omega)]; exact hi)]
  · rfl
theorem mixN_all {s nx : List Nat} (h : s.length = nx.length) : mixN s nx nx.length = s := by unfold mixN; rw [List.take_of_length_le (by omega), List.drop_length, List.append_nil]
end Go.Proofs.Ytjenfhkikbndmaa
/- cmp.Compare[string]. -/
namespace Go.Proofs.Ytjenfhkikbndmaa
open Go.RowKit

set_option maxHeartbeats 400000 in
theorem nanStr_any (s : ByteArray) (w : World) :
    Calls Try.prog 83 #[.string s] w fun e w' => e = .returned (.bool false) ∧ w = w' := by
  go_enter Try.func83, Try.ntmps83
  go_wp2
  go_ret
  exact ⟨by simp, rfl⟩

set_option maxHeartbeats 400000 in
theorem cmpStr_any (s t : ByteArray) (w : World) :
    Calls Try.prog 69 #[.string s, .string t] w fun e w' => e = .returned (.int .i64 (cmpBytes s.toList t.toList)) ∧ w = w' := by
  have HL := Lib.hid (bytesLess_cmp s.toList t.toList)
  have HG := Lib.hid (bytesGtr_cmp s.toList t.toList)
  have hr := cmpBytes_good.range s.toList t.toList
  generalize cmpBytes s.toList t.toList = c at *
  go_enter Try.func69, Try.ntmps69
  go_wp2_with (go_at_call 83; refine (nanStr_any _ _).mono ?_; rintro e w' ⟨rfl, rfl⟩)
  · have h : Op.bytesLess s.toList t.toList = true := by assumption
    have hl := HL.out
    rw [h] at hl
    have : c = -1 := by have := of_decide_eq_true hl.symm; omega
    subst this
    go_ret
    exact ⟨rfl, rfl⟩
  · have h1 : Op.bytesLess s.toList t.toList = false := by assumption
    have h2 : (!s.toList == t.toList) = true := by assumption
    have hg := HG.out
    rw [h1, Bool.false_or, h2] at hg
    have : c = 1 := by have := of_decide_eq_true hg.symm; omega
    subst this
    go_ret
    exact ⟨rfl, rfl⟩
  · have h1 : Op.bytesLess s.toList t.toList = false := by assumption
    have h2 : (!s.toList == t.toList) = false := by assumption
    have hl := HL.out
    have hg := HG.out
    rw [h1] at hl
    rw [h1, Bool.false_or, h2] at hg
    have : c = 0 := by have := of_decide_eq_false hl.symm; have := of_decide_eq_false hg.symm; omega
    subst this
    go_ret
    exact ⟨rfl, rfl⟩

end Go.Proofs.Ytjenfhkikbndmaa
/- package slab: lists (for chapter 14). -/
namespace Go.Proofs.Ytjenfhkikbndmaa
open Go.RowKit

/-- A run, read whole: its number and its records. -/
def tRunD : Ty (Nat × List RecS) := ⟨1, fun m cs x => ∃ a v, cs = [ptrS a] ∧ m a 0 = some (.int .i64 x.1) ∧ m a 1 = some v ∧ tRecSs.rv m [v] x.2, fun _ _ _ h => by obtain ⟨a, v, rfl, _⟩ := h; rfl,
  fun _ _ _ _ hM h => let ⟨a, v, h1, h2, h3, h4⟩ := h; ⟨a, v, h1, hM _ _ _ h2, hM _ _ _ h3, tRecSs.mono _ _ _ _ hM h4⟩⟩
abbrev tRowD : Ty (List (Nat × List RecS)) := tSlice tRunD
abbrev tLevD : Ty (List (List (Nat × List RecS))) := tSlice tRowD
def runD (s : LS) (n : Nat) : Nat × List RecS := (n, s.rc n)
section
variable {W : World} {base p : Nat} {r : HL}
theorem LInv.rowD (h : LInv W base p r) {v : Value} {l : List Nat} (hv : (tRow r.ad).rv r.M [v] l) (hl : ∀ n ∈ l, n ∈ r.s.kept) : tRowD.rv (mem W) [v] (l.map (runD r.s)) :=
  slice_map (t := tRun r.ad) (t' := tRunD) rfl h.ml (runD r.s) hv (fun n hn cs ⟨a, e, hc⟩ => by
    obtain ⟨u, h1, h2⟩ := h.run (hl n hn) e
    exact ⟨a, u, hc, mem_cells h1 0, mem_cells h1 1, tRecSs.mono _ _ _ _ h.ml h2⟩)
theorem LInv.levD (h : LInv W base p r) {v : Value} {l : List (List Nat)} (hv : (tLev r.ad).rv (mem W) [v] l) (hl : ∀ x ∈ l, ∀ n ∈ x, n ∈ r.s.kept) (hM : ∀ x ∈ l, ∀ v, (tRow r.ad).rv (mem W) [v] x → (tRow r.ad).rv r.M [v] x) : tLevD.rv (mem W) [v] (l.map fun x => x.map (runD r.s)) :=
  slice_map (t := tRow r.ad) (t' := tRowD) rfl (Mem.le_refl _) (fun x => x.map (runD r.s)) hv (fun x hx cs hc => by
    have hl1 := (tRow r.ad).len _ _ _ hc
    match cs, hl1 with
    | [u], _ => exact h.rowD (hM x hx u hc) (hl x hx))
/-- The levels, read whole. -/
theorem LInv.curD (h : LInv W base p r) (hl : ∀ x ∈ r.s.lv, ∀ n ∈ x, n ∈ r.s.kept) : tLevD.rv (mem W) [r.lvv] (r.s.lv.map fun x => x.map (runD r.s)) :=
  slice_map (t := tIn r.M (tRow r.ad)) (t' := tRowD) rfl (Mem.le_refl _) (fun x => x.map (runD r.s)) h.lb.rv' (fun x hx cs hc => by
    have hc : (tRow r.ad).rv r.M cs x := hc
    have hl1 := (tRow r.ad).len _ _ _ hc
    match cs, hl1 with
    | [u], _ => exact h.rowD hc (hl x hx))
end
/-- A row of one element, just laid. -/
theorem Owns.one {α : Type} {t : Ty α} {w : World} {B : Nat} {e : TypeId} {g : Nat} {cs : List Value} {x : α} (hB : B ≤ g) (hg : w.heap[g]? = some (.cells cs.toArray e (0, 0))) (hl : cs.length = t.sz) (hz : 0 < t.sz)
    (hx : t.rv ((mem w).on (fun b => some b ≠ some g)) cs x) (h1 : ∀ u ∈ cs, u.oneCell' = true) : Owns t w B e (.slice (some ⟨g, 0, none⟩) 1 1) [x] := by
  refine ⟨[cs], rfl, ⟨?_, .inr ⟨g, 1, cs.toArray, rfl, hB, hg, Nat.le_refl _, by unfold maxLen; decide, ?_, ?_⟩⟩, fun c hc => ?_, fun k h h' => ?_⟩
  · simp [hl]
  · simp [hl]
  · simp [← hl]
  · simp at hc; subst hc; exact hl
  · have : k = 0 := by simp at h; omega
    subst this
    exact hx
theorem infoRecs : (Try.prog.info? 60).map (fun i => (i.zero, i.size, i.bytes)) = some (some (.slice none 0 0), 1, 24) := by kernel_rfl
/-- All lists, the newest first. -/
def listsD (tbl : List RecS) (L : List (List (Nat × List RecS))) : List (List RecS) := tbl :: L.flatten.map Prod.snd
theorem take_flat {β : Type} (L : List (List β)) {i : Nat} (hi : i < L.length) (j : Nat) (hj : j < L[i].length) : ((L.take i).flatten ++ L[i].take (j + 1)) = ((L.take i).flatten ++ L[i].take j) ++ [L[i][j]] := by
  rw [List.take_succ_eq_append_getElem hj, List.append_assoc]
theorem take_flat1 {β : Type} (L : List (List β)) {i : Nat} (hi : i < L.length) : (L.take i).flatten ++ L[i].take L[i].length = (L.take (i + 1)).flatten := by
  rw [List.take_length, List.take_succ_eq_append_getElem hi, List.flatten_append]; simp
theorem flat_le {β : Type} (L : List (List β)) {i : Nat} (hi : i < L.length) (j : Nat) : ((L.take i).flatten ++ L[i].take j).length ≤ L.flatten.length := by
  have h : L.flatten.length = (L.take i).flatten.length + (L[i].length + (L.drop (i + 1)).flatten.length) := by
    rw [← List.length_append, ← List.flatten_cons, ← List.drop_eq_getElem_cons hi, ← List.length_append, ← List.flatten_append, List.take_append_drop]
  rw [List.length_append, h]
  have := List.length_take_le' j L[i]
  omega
set_option maxRecDepth 100000 in
set_option maxHeartbeats 4000000 in
theorem lists_any (pv : Value) (tbl : List RecS) (L : List (List (Nat × List RecS))) (tv lv : Value) (W : World) (ht : tRecSs.rv (mem W) [tv] tbl) (hl : tLevD.rv (mem W) [lv] L) (hn : L.length ≤ 1000000000 ∧ L.flatten.length ≤ 1000000000 ∧ ∀ x ∈ L, x.length ≤ 1000000000) :
    Calls Try.prog 34 #[pv, tv, lv] W fun e w' => ∃ a cap, e = .returned (.slice a (listsD tbl L).length cap) ∧ (tSlice tRecSs).rv (mem w') [.slice a (listsD tbl L).length cap] (listsD tbl L) ∧ Below W.heap.size W w' := by
  obtain ⟨ta, tc, rfl, -, -, ht⟩ := slice_form ht
  obtain ⟨la, lc, rfl, hlc, hlm, hl⟩ := slice_form hl
  obtain ⟨hn1, hn2, hn3⟩ := hn
  have HN3 := Lib.hid hn3
  have HL := Lib.hid hl
  have HT := Lib.hid ht
  have HB0 := Lib.hid ((Below.refl _ W).alloc (Nat.le_refl _) (.cells #[.slice ta tbl.length tc] 60))
  have HO0 := Lib.hid (show Owns (tIn (mem W) tRecSs) (W.alloc (.cells #[.slice ta tbl.length tc] 60)) W.heap.size 60 (.slice (some ⟨W.heap.size, 0, none⟩) 1 1) [tbl] from
    Owns.one (cs := [.slice ta tbl.length tc]) (Nat.le_refl _) (heap_alloc_new W _) rfl (Nat.succ_pos 0) ht (fun u hu => by simp at hu; subst hu; rfl))
  clear hl ht hn3
  go_enter Try.func34, Try.ntmps34
  go_wp2_with fail
  go_loopw [7, 16] (fun ov iv wr => ∃ i : Nat, i ≤ L.length ∧ iv = .int .i64 i ∧ Hid (Owns (tIn (mem W) tRecSs) wr W.heap.size 60 ov (tbl :: (L.take i).flatten.map Prod.snd)) ∧ Hid (Below W.heap.size W wr)) (fun _ iv _ => L.length - (intOf iv).toNat)
  case atStart => exact ⟨0, Nat.zero_le _, rfl, HO0, HB0⟩
  case round =>
    obtain ⟨i, hi, rfl, HO, HB⟩ := hrel
    by_cases hlt : i < L.length
    · have hlv := HL.out
      obtain ⟨lb, lo, e, hat⟩ := slice_at hlv hlt
      subst e
      obtain ⟨rv, hc, hrow⟩ := slice_cell hat
      obtain ⟨ra, rc, rfl, hrc, hrm, hrow⟩ := slice_form hrow
      have hxl := HN3.out _ (List.getElem_mem hlt)
      have c0 : wr.cell? ⟨lb, lo + i, none⟩ = some (.slice ra L[i].length rc) := below_mem HB.out _ _ _ (by simpa [tRowD, tRunD, tSlice, mem] using hc)
      have HFL := Lib.hid (fun j => flat_le L hlt j)
      have HTF := Lib.hid (fun j hj => take_flat L hlt j hj)
      have HTE := Lib.hid (take_flat1 L hlt)
      have HR := Lib.hid hrow
      clear hlv hat hc hrow
      generalize L[i] = row at *
      have hcr : rc ≤ 9223372036854775807 := by unfold maxLen at hrm; exact hrm
      go_wp2_with fail
      go_loopw [7, 22] (fun ov iv w2 => ∃ j : Nat, j ≤ row.length ∧ iv = .int .i64 j ∧ Hid (Owns (tIn (mem W) tRecSs) w2 W.heap.size 60 ov (tbl :: ((L.take i).flatten ++ row.take j).map Prod.snd)) ∧ Hid (Below W.heap.size W w2)) (fun _ iv _ => row.length - (intOf iv).toNat)
      case atStart => exact ⟨0, Nat.zero_le _, rfl, by rw [List.take_zero, List.append_nil]; exact HO, HB⟩
      case round =>
        obtain ⟨j, hj, rfl, HO2, HB2⟩ := hrel
        by_cases hjt : j < row.length
        · obtain ⟨rb, ro, e, hrt⟩ := slice_at HR.out hjt
          subst e
          obtain ⟨rcs, hrc1, aa, uv, rfl, hr0, hr1, hr2⟩ := hrt
          have d0 : wr.cell? ⟨rb, ro + j, none⟩ = some (ptrS aa) := below_mem HB2.out _ _ _ (by have := hrc1 0 _ rfl; simpa [tRunD, mem] using this)
          have d1 : wr.cell? ⟨aa, 1, none⟩ = some uv := below_mem HB2.out _ _ _ hr1
          obtain ⟨ua, uc, rfl, -, -, hr2⟩ := slice_form hr2
          have HU := Lib.hid (show tRecSs.rv (mem W) [.slice ua row[j].2.length uc] row[j].2 from hr2)
          have HTJ := Lib.hid (HTF.out j hjt)
          have hfl := HFL.out j
          have HSZ := Lib.hid HB2.out.size
          clear hrc1 hr0 hr1 hr2
          generalize row[j] = y at *
          obtain ⟨yn, yl⟩ := y
          simp only at HU d1
          generalize hq : tbl :: ((L.take i).flatten ++ row.take j).map Prod.snd = q at *
          have hql : q.length ≤ 1000000001 := by rw [← hq, List.length_cons, List.length_map]; omega
          have HQ := Lib.hid (show tbl :: ((L.take i).flatten ++ row.take (j + 1)).map Prod.snd = q ++ [yl] by rw [HTJ.out, ← hq]; simp)
          obtain ⟨al, cl, hvl, _⟩ := HO2.out.len
          subst hvl
          clear hq hfl
          go_wp2_with (at_builtin; refine wpList_append_one rfl _ _ 77 rfl (tIn (mem W) tRecSs) Try.underlying77 infoRecs rfl (Nat.succ_pos 0) W.heap.size _ q rfl (HO2.out.alloc _) _ _ yl rfl [.slice ua yl.length uc] ?a2 HU.out ?b2 ?c2 ?d2 ?e2 ?_)
          case a2 => exact fun j u hj => by match j, hj with | 0, hj => simp at hj; subst hj; simp [mem]
          case b2 => rfl
          case c2 => unfold maxLen; omega
          case d2 => omega
          case e2 => have := HSZ.out; simp; omega
          · intro v' w6 own6 hgrow _
            have HB6 := Lib.hid (show Below W.heap.size W w6 from (HB2.out.alloc HB2.out.size _).grown hgrow (by have := HSZ.out; simp; omega) (fun k hk => ((HO2.out).lt k hk).1))
            rw [← HQ.out] at own6
            have HO6 := Lib.hid own6
            clear own6 hgrow HO2 HB2
            go_wp2
            go_roundw
            case rel => exact ⟨j + 1, by omega, by go_num, HO6, HB6⟩
            case measure => simp [intOf]; omega
        · obtain rfl : j = row.length := by omega
          rw [HTE.out] at HO2
          clear HTE HTF HFL
          go_wp2
          go_roundw
          case rel => exact ⟨i + 1, by omega, by go_num, HO2, HB2⟩
          case measure => simp [intOf]; omega
    · obtain rfl : i = L.length := by omega
      rw [List.take_length] at HO
      obtain ⟨al, cl, hvl, _⟩ := HO.out.len
      subst hvl
      have HR := Lib.hid (show (tSlice tRecSs).rv (mem wr) [.slice al (listsD tbl L).length cl] (listsD tbl L) from slice_in HO.out.rv' (below_mem HB.out))
      go_wp2
      go_ret
      exact ⟨al, cl, rfl, HR.out, HB.out⟩
end Go.Proofs.Ytjenfhkikbndmaa
/- cmp.Or at three numbers (out of XRgCmp; for chapter 14). -/
namespace Go.Proofs.Ytjenfhkikbndmaa
open Go.RowKit
def orI3 (a b c : Int) : Int := if a ≠ 0 then a else if b ≠ 0 then b else c
set_option maxHeartbeats 1000000 in
theorem cmpOr_any (a b c : Int) (blk cap : Nat) (w : World) (h0 : w.cell? ⟨blk, 0, none⟩ = some (.int .i64 a)) (h1 : w.cell? ⟨blk, 1, none⟩ = some (.int .i64 b)) (h2 : w.cell? ⟨blk, 2, none⟩ = some (.int .i64 c)) :
    Calls Try.prog 67 #[.slice (some ⟨blk, 0, none⟩) 3 cap] w fun e w' => e = .returned (.int .i64 (orI3 a b c)) ∧ w = w' := by
  by_cases ha : a = 0
  · subst ha
    by_cases hb : b = 0
    · subst hb
      by_cases hc : c = 0
      · subst hc
        rw [show orI3 0 0 0 = 0 from rfl]
        go_enter Try.func67, Try.ntmps67
        go_wp2
        go_loop [8] (fun i => ∃ k : Nat, k ≤ 3 ∧ i = .int .i64 k) (fun i => 3 - (intOf i).toNat)
        case atStart => exact ⟨0, by omega, rfl⟩
        case round =>
          obtain ⟨k, hk, rfl⟩ := hrel
          match k, hk with
          | 0, _ =>
            go_wp2
            go_round
            case rel => exact ⟨1, by omega, by go_num⟩
            case measure => simp [intOf]
          | 1, _ =>
            go_wp2
            go_round
            case rel => exact ⟨2, by omega, by go_num⟩
            case measure => simp [intOf]
          | 2, _ =>
            go_wp2
            go_round
            case rel => exact ⟨3, by omega, by go_num⟩
            case measure => simp [intOf]
          | 3, _ =>
            go_wp2
            go_ret
            exact ⟨rfl, rfl⟩
      · have hc' : (c != 0) = true := by simp [hc]
        rw [show orI3 0 0 c = c from rfl]
        clear hc
        go_enter Try.func67, Try.ntmps67
        go_wp2
        go_loop [8] (fun i => ∃ k : Nat, k ≤ 2 ∧ i = .int .i64 k) (fun i => 3 - (intOf i).toNat)
        case atStart => exact ⟨0, by omega, rfl⟩
        case round =>
          obtain ⟨k, hk, rfl⟩ := hrel
          match k, hk with
          | 0, _ =>
            go_wp2
            go_round
            case rel => exact ⟨1, by omega, by go_num⟩
            case measure => simp [intOf]
          | 1, _ =>
            go_wp2
            go_round
            case rel => exact ⟨2, by omega, by go_num⟩
            case measure => simp [intOf]
          | 2, _ =>
            go_wp2
            go_ret
            exact ⟨rfl, rfl⟩
    · have hb' : (b != 0) = true := by simp [hb]
      rw [show orI3 0 b c = b from by unfold orI3; simp [hb]]
      clear hb
      go_enter Try.func67, Try.ntmps67
      go_wp2
      go_loop [8] (fun i => ∃ k : Nat, k ≤ 1 ∧ i = .int .i64 k) (fun i => 3 - (intOf i).toNat)
      case atStart => exact ⟨0, by omega, rfl⟩
      case round =>
        obtain ⟨k, hk, rfl⟩ := hrel
        match k, hk with
        | 0, _ =>
          go_wp2
          go_round
          case rel => exact ⟨1, by omega, by go_num⟩
          case measure => simp [intOf]
        | 1, _ =>
          go_wp2
          go_ret
          exact ⟨rfl, rfl⟩
  · have ha' : (a != 0) = true := by simp [ha]
    rw [show orI3 a b c = a from if_pos ha]
    clear ha
    go_enter Try.func67, Try.ntmps67
    go_wp2
    go_loop [8] (fun i => i = .int .i64 0) (fun i => 3 - (intOf i).toNat)
    case atStart => rfl
    case round =>
      subst hrel
      go_wp2
      go_ret
      exact ⟨rfl, rfl⟩
set_option maxHeartbeats 400000 in
theorem nanI_any (x : Int) (w : World) : Calls Try.prog 82 #[.int .i64 x] w fun e w' => e = .returned (.bool false) ∧ w = w' := by
  go_enter Try.func82, Try.ntmps82
  go_wp2
  go_ret
  exact ⟨by simp, rfl⟩
set_option maxHeartbeats 1000000 in
theorem cmpI_any (x y : Int) (w : World) :
    Calls Try.prog 68 #[.int .i64 x, .int .i64 y] w fun e w' => e = .returned (.int .i64 (cmpInt x y)) ∧ w = w' := by
  have HC := Lib.hid (show cmpInt x y = if x < y then -1 else if y < x then 1 else 0 from rfl)
  generalize cmpInt x y = c at *
  by_cases h1 : x < y
  · have HR := Lib.hid (show c = -1 by rw [HC.out, if_pos h1])
    go_enter Try.func68, Try.ntmps68
    go_wp2_with (go_at_call 82; refine (nanI_any _ _).mono ?_; rintro e w' ⟨rfl, rfl⟩)
    go_ret
    exact ⟨by rw [HR.out] <;> rfl, rfl⟩
  · by_cases h2 : y < x
    · have HR := Lib.hid (show c = 1 by rw [HC.out, if_neg h1, if_pos h2])
      go_enter Try.func68, Try.ntmps68
      go_wp2_with (go_at_call 82; refine (nanI_any _ _).mono ?_; rintro e w' ⟨rfl, rfl⟩)
      go_ret
      exact ⟨by rw [HR.out] <;> rfl, rfl⟩
    · have HR := Lib.hid (show c = 0 by rw [HC.out, if_neg h1, if_neg h2])
      go_enter Try.func68, Try.ntmps68
      go_wp2_with (go_at_call 82; refine (nanI_any _ _).mono ?_; rintro e w' ⟨rfl, rfl⟩)
      go_ret
      exact ⟨by rw [HR.out] <;> rfl, rfl⟩
end Go.Proofs.Ytjenfhkikbndmaa
/- package slab: place, at (for chapter 14). -/
namespace Go.Proofs.Ytjenfhkikbndmaa
open Go.RowKit Go.Sort

def cmpS14 (s t : ByteArray) : Int := cmpBytes s.toList t.toList
theorem cmpS14_any (s t : ByteArray) (w : World) :
    Calls Try.prog 69 #[.string s, .string t] w fun e w' => e = .returned (.int .i64 (cmpS14 s t)) ∧ w = w' := cmpStr_any s t w
theorem placeC_or (x y : Ent) : placeC x y = orI3 (cmpInt x.g y.g) (cmpS14 x.nm y.nm) (cmpS14 x.key y.key) := by
  show lex _ _ x y = _
  unfold orI3 lex spotC cmpS14
  by_cases h1 : cmpInt x.g y.g = 0 <;> by_cases h2 : cmpBytes x.nm.toList y.nm.toList = 0 <;> simp [h1, h2, lex]
set_option maxRecDepth 100000 in
set_option maxHeartbeats 4000000 in
theorem slabPlace_any (x y : Ent) (W : World) :
    Calls Try.prog 59 #[x.v, y.v] W fun e w' => e = .returned (.int .i64 (placeC x y)) ∧ Below W.heap.size W w' := by
  have HE := Lib.hid (placeC_or x y)
  generalize placeC x y = c at *
  obtain ⟨x1, x2, x3, x4⟩ := x
  obtain ⟨y1, y2, y3, y4⟩ := y
  simp only at HE
  have HG := Lib.hid (fun (o1 o2 o3 : Obj) => (show Below W.heap.size W (((W.alloc o1).alloc o2).drew.alloc o3) from
    ((((Below.refl _ W).alloc (Nat.le_refl _) o1).alloc (by simp) o2).drew).alloc (by show W.heap.size ≤ ((W.alloc o1).alloc o2).heap.size; simp; omega) o3))
  have HN := Lib.hid (fun (o1 o2 : Obj) (cs : Array Value) (T : TypeId) (f : Nat × Nat) (o : Nat) => (show (((W.alloc o1).alloc o2).drew.alloc (.cells cs T f)).cell? ⟨W.heap.size + 1 + 1, o, none⟩ = cs[o]? from by
    have := mem_cells_new ((W.alloc o1).alloc o2).drew cs T f o
    rw [show ((W.alloc o1).alloc o2).drew.heap.size = W.heap.size + 1 + 1 from by show ((W.alloc o1).alloc o2).heap.size = _; simp] at this
    exact this))
  go_enter Try.func59, Try.ntmps59
  go_wp2_with fail
  go_region_held3 (fun w' => w'.cell? ⟨W.heap.size, 0, none⟩ = some (.int .i64 x1) ∧ w'.cell? ⟨W.heap.size, 1, none⟩ = some (.string x2) ∧ w'.cell? ⟨W.heap.size, 2, none⟩ = some (.string x3) ∧ w'.cell? ⟨W.heap.size + 1, 0, none⟩ = some (.int .i64 y1) ∧ w'.cell? ⟨W.heap.size + 1, 1, none⟩ = some (.string y2) ∧ w'.cell? ⟨W.heap.size + 1, 2, none⟩ = some (.string y3))
    (go_keep)
    ((first
      | (go_at_call 68; refine (cmpI_any _ _ _).mono ?_; rintro e w2 ⟨rfl, rfl⟩)
      | (go_at_call 69; refine (cmpS14_any _ _ _).mono ?_; rintro e w2 ⟨rfl, rfl⟩)
      | (go_at_call 67; refine (cmpOr_any (cmpInt x1 y1) (cmpS14 x2 y2) (cmpS14 x3 y3) _ _ _ (HN.out _ _ _ _ _ 0) (HN.out _ _ _ _ _ 1) (HN.out _ _ _ _ _ 2)).mono ?_; rintro e w2 ⟨rfl, rfl⟩)))
  all_goals
    go_wp2
    go_ret
    exact ⟨by rw [HE.out] <;> rfl, HG.out _ _ _⟩
end Go.Proofs.Ytjenfhkikbndmaa
/- package slab: at (for chapter 14). -/
namespace Go.Proofs.Ytjenfhkikbndmaa
open Go.RowKit

set_option maxRecDepth 100000 in
set_option maxHeartbeats 2000000 in
theorem slabAt_any (r : RecS) (x : Ent) (W : World) :
    Calls Try.prog 44 #[r.v, x.v] W fun e w' => e = .returned (.int .i64 (placeC r.e x)) ∧ Below W.heap.size W w' := by
  have HP := Lib.hid (fun w => slabPlace_any r.e x w)
  have HB := Lib.hid (fun (o1 o2 : Obj) => (show Below W.heap.size W ((W.alloc o1).alloc o2) from ((Below.refl _ W).alloc (Nat.le_refl _) o1).alloc (by simp) o2))
  generalize placeC r.e x = c at *
  obtain ⟨⟨g1, n1, k1, v1⟩, gr⟩ := r
  obtain ⟨g2, n2, k2, v2⟩ := x
  go_enter Try.func44, Try.ntmps44
  go_wp2_with fail
  refine (HP.out _).mono ?_
  rintro e w2 ⟨rfl, hb⟩
  have HB2 := Lib.hid (pure_trans (HB.out _ _) hb)
  clear hb
  go_wp2
  go_ret
  exact ⟨rfl, HB2.out⟩
end Go.Proofs.Ytjenfhkikbndmaa
