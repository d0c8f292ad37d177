/- Maps from numbers to packets: what look-ups, stores and deletes do, as runs. -/
import Derived.Test.YtfkphdmnelchmaaWireE
import Derived.Maps.Views
namespace Go.Proofs.Ytfkphdmnelchmaa
open Go.RowKit Go.Maps

open Classical in
noncomputable def delAt {κ α : Type} (f : κ → Option α) (x : κ) : κ → Option α := fun y => if y = x then none else f y
theorem delAt_same {κ α : Type} (f : κ → Option α) (x : κ) : delAt f x x = none := by simp [delAt]
theorem delAt_other {κ α : Type} (f : κ → Option α) {x y : κ} (h : y ≠ x) : delAt f x y = f y := by simp [delAt, h]
theorem keyK : Keyed Try.prog 3 := int_keyed Try.underlying3

section
variable {κ α : Type} {P : Program} {k : TypeId} {lk : κ → Lit} {vr : VR α} {w : World} {b n : Nat} {f : κ → Option α}
theorem MapOf.look {t e : TypeId} (h : MapOf P k lk vr w b n f) (K : Keyed P k) (ht : P.underlying t = some (.map k e)) {z : Value} (hz : (zeroValue e).run P w = .ok z w) {key : Value} {y : κ} (hkey : keyOf P k key = some (lk y)) :
    ∃ v, (Instr.lookup t (.map (some b)) key false).run P w = .ok v w ∧ (f y = none → v = z) ∧ (∀ c, f y = some c → vr.rel (mem w) v c) := by
  obtain ⟨D, hown, h1, h2, _⟩ := h
  obtain ⟨v, ps, hrun, hv⟩ := hown.lookup K ht hz (zd := .held z) (zp := []) rfl hkey
  simp only [rawE, Option.some.injEq, Prod.mk.injEq] at hv
  refine ⟨v, hrun, fun e => ?_, fun c e => ?_⟩
  · have := hv.1
    rw [atKey_of_not_has (h1 y e)] at this
    injection this
  · obtain ⟨_, u, g1, g2⟩ := h2 y c e
    have := hv.1
    rw [g1] at this
    injection this with this
    rw [this]; exact g2
theorem MapOf.lookOk {t e : TypeId} (h : MapOf P k lk vr w b n f) (K : Keyed P k) (ht : P.underlying t = some (.map k e)) {z : Value} (hz : (zeroValue e).run P w = .ok z w) {key : Value} {y : κ} (hkey : keyOf P k key = some (lk y)) :
    ∃ v, (Instr.lookup t (.map (some b)) key true).run P w = .ok (.tuple #[v, .bool (f y).isSome]) w ∧ (f y = none → v = z) ∧ (∀ c, f y = some c → vr.rel (mem w) v c) := by
  obtain ⟨D, hown, h1, h2, _⟩ := h
  obtain ⟨v, ps, hrun, hv⟩ := hown.look_ok K ht hz (zd := .held z) (zp := []) rfl hkey
  have hs : Maps.has D (lk y) = (f y).isSome := by
    cases hf : f y with
    | none => exact h1 y hf
    | some c => exact (h2 y c hf).1
  rw [hs] at hrun
  simp only [rawE, Option.some.injEq, Prod.mk.injEq] at hv
  refine ⟨v, hrun, fun e => ?_, fun c e => ?_⟩
  · have := hv.1
    rw [atKey_of_not_has (h1 y e)] at this
    injection this
  · obtain ⟨_, u, g1, g2⟩ := h2 y c e
    have := hv.1
    rw [g1] at this
    injection this with this
    rw [this]; exact g2
end
section
variable {W : World} {b n : Nat} {f : Int → Option Nat}
theorem PMap.put (h : PMap W b n f) (hn : n < maxLen) {k : Int} (hk : inI64 k) (a : Nat) :
    ∃ W', (Instr.mapUpdate 82 (.map (some b)) (.int .i64 k) (.pointer (some ⟨a, 0, none⟩))).run Try.prog W = .ok () W' ∧ PMap W' b (n + 1) (putAt f k a) ∧ W.grownBy W' (some b) := by
  obtain ⟨D, hown, hs⟩ := h
  obtain ⟨W', hrun, ho, hgr⟩ := hown.update keyK Try.underlying82 hn (keyOf_i64 hk) (R := rawE) (val := ptrTo a) (d := .held (ptrTo a)) (ps := []) rfl
  have hle := grown_mem hown hgr
  exact ⟨W', hrun, ⟨_, ho, hs.put hle hown.isMap intKey_inj (keyK.key (keyOf_i64 hk)) rfl⟩, hgr⟩
def ptrOr : Option Nat → Value
  | none => .pointer none
  | some a => ptrTo a
theorem PMap.look (h : PMap W b n f) {k : Int} (hk : inI64 k) : (Instr.lookup 82 (.map (some b)) (.int .i64 k) false).run Try.prog W = .ok (ptrOr (f k)) W := by
  obtain ⟨v, h1, h2, h3⟩ := MapOf.look h keyK Try.underlying82 (zeroPk W) (keyOf_i64 hk)
  rw [h1]
  cases hf : f k with
  | none => rw [h2 hf]; rfl
  | some a => rw [show v = ptrTo a from h3 a hf]; rfl
theorem PMap.lookOk (h : PMap W b n f) {k : Int} (hk : inI64 k) : (Instr.lookup 82 (.map (some b)) (.int .i64 k) true).run Try.prog W = .ok (.tuple #[ptrOr (f k), .bool (f k).isSome]) W := by
  obtain ⟨v, h1, h2, h3⟩ := MapOf.lookOk h keyK Try.underlying82 (zeroPk W) (keyOf_i64 hk)
  rw [h1]
  cases hf : f k with
  | none => rw [h2 hf]; rfl
  | some a => rw [show v = ptrTo a from h3 a hf]; rfl
theorem turned_grown {w w' : World} {b : Nat} (h : w.mapTurned w' b) : w.grownBy w' (some b) := by
  obtain ⟨es, c, es', c', hb, rfl⟩ := h
  exact ⟨rfl, rfl, rfl, by simp [ChangeMaps.setBlock], fun i _ hi => ChangeMaps.heap_setBlock_other hb _ (fun e => hi (by rw [e]))⟩
theorem PMap.drop (h : PMap W b n f) {k : Int} (hk : inI64 k) (ty : TypeId) :
    ∃ W', (Builtin.delete_ #[82, 3] ty #[.map (some b), .int .i64 k]).run Try.prog W = .ok (.tuple #[]) W' ∧ PMap W' b n (delAt f k) ∧ W.grownBy W' (some b) := by
  obtain ⟨D, hown, h1, h2, h3⟩ := h
  obtain ⟨W', hrun, ho, ht⟩ := hown.drop keyK Try.underlying82 (keyOf_i64 hk) ty
  refine ⟨W', hrun, ⟨_, ho, fun y hy => ?_, fun y c hy => ?_, fun l hl => ?_⟩, turned_grown ht⟩
  · by_cases e : y = k
    · subst e; exact has_del_same
    · rw [delAt_other _ e] at hy
      rw [has_del_other (fun e' => e (intKey_inj _ _ e'))]; exact h1 y hy
  · by_cases e : y = k
    · subst e; rw [delAt_same] at hy; cases hy
    · rw [delAt_other _ e] at hy
      obtain ⟨g, u, g1, g2⟩ := h2 y c hy
      have hne : intKey y ≠ intKey k := fun e' => e (intKey_inj _ _ e')
      exact ⟨by rw [has_del_other hne]; exact g, u, fun z => by rw [atKey_del_other hne]; exact g1 z, g2⟩
  · by_cases e : l = intKey k
    · exact ⟨k, e⟩
    · rw [has_del_other e] at hl; exact h3 l hl
end
end Go.Proofs.Ytfkphdmnelchmaa
