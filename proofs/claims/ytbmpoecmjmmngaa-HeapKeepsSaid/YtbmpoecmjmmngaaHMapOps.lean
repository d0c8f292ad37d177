/- What look-ups, stores and deletes in the maps of package heap do, as runs. -/
import Derived.Test.YtbmpoecmjmmngaaHeapB
namespace Go.Proofs.Ytbmpoecmjmmngaa
open Go.RowKit Go.Maps

open Classical in
noncomputable def delAt {κ α : Type} (f : κ → Option α) (x : κ) : κ → Option α := fun y => if y = x then none else f y
theorem delAt_same {κ α : Type} (f : κ → Option α) (x : κ) : delAt f x x = none := by simp [delAt]
theorem delAt_other {κ α : Type} (f : κ → Option α) {x y : κ} (h : y ≠ x) : delAt f x y = f y := by simp [delAt, h]
section
variable {κ α : Type} {P : Program} {k : TypeId} {lk : κ → Lit} {vr : VR α} {w : World} {b n : Nat} {f : κ → Option α}
theorem MapOf.look {t e : TypeId} (h : MapOf P k lk vr w b n f) (K : Keyed P k) (ht : P.underlying t = some (.map k e)) {z : Value} (hz : (zeroValue e).run P w = .ok z w) {key : Value} {y : κ} (hkey : keyOf P k key = some (lk y)) :
    ∃ v, (Instr.lookup t (.map (some b)) key false).run P w = .ok v w ∧ (f y = none → v = z) ∧ (∀ c, f y = some c → vr.rel (mem w) v c) := by
  obtain ⟨D, hown, h1, h2, _⟩ := h
  obtain ⟨v, ps, hrun, hv⟩ := hown.lookup K ht hz (zd := .held z) (zp := []) rfl hkey
  simp only [rawE, Option.some.injEq, Prod.mk.injEq] at hv
  refine ⟨v, hrun, fun e => ?_, fun c e => ?_⟩
  · have := hv.1
    rw [atKey_of_not_has (h1 y e)] at this
    injection this
  · obtain ⟨_, u, g1, g2⟩ := h2 y c e
    have := hv.1
    rw [g1] at this
    injection this with this
    rw [this]; exact g2
theorem MapOf.lookOk {t e : TypeId} (h : MapOf P k lk vr w b n f) (K : Keyed P k) (ht : P.underlying t = some (.map k e)) {z : Value} (hz : (zeroValue e).run P w = .ok z w) {key : Value} {y : κ} (hkey : keyOf P k key = some (lk y)) :
    ∃ v, (Instr.lookup t (.map (some b)) key true).run P w = .ok (.tuple #[v, .bool (f y).isSome]) w ∧ (f y = none → v = z) ∧ (∀ c, f y = some c → vr.rel (mem w) v c) := by
  obtain ⟨D, hown, h1, h2, _⟩ := h
  obtain ⟨v, ps, hrun, hv⟩ := hown.look_ok K ht hz (zd := .held z) (zp := []) rfl hkey
  have hs : Maps.has D (lk y) = (f y).isSome := by
    cases hf : f y with
    | none => exact h1 y hf
    | some c => exact (h2 y c hf).1
  rw [hs] at hrun
  simp only [rawE, Option.some.injEq, Prod.mk.injEq] at hv
  refine ⟨v, hrun, fun e => ?_, fun c e => ?_⟩
  · have := hv.1
    rw [atKey_of_not_has (h1 y e)] at this
    injection this
  · obtain ⟨_, u, g1, g2⟩ := h2 y c e
    have := hv.1
    rw [g1] at this
    injection this with this
    rw [this]; exact g2
end
theorem turned_grown {w w' : World} {b : Nat} (h : w.mapTurned w' b) : w.grownBy w' (some b) := by
  obtain ⟨es, c, es', c', hb, rfl⟩ := h
  exact ⟨rfl, rfl, rfl, by simp [ChangeMaps.setBlock], fun i _ hi => ChangeMaps.heap_setBlock_other hb _ (fun e => hi (by rw [e]))⟩
theorem zeroStr (W : World) : (zeroValue 9).run Try.prog W = .ok (.string .empty) W := Try.zeroValue9 W
theorem zeroRow (W : World) : (zeroValue 77).run Try.prog W = .ok (.slice none 0 0) W := Try.zeroValue77 W
section
variable {W : World} {b n : Nat}
def strOr : Option ByteArray → ByteArray
  | none => .empty
  | some a => a
theorem GMap.lookOk {f : FMap} (h : GMap W b n f) {x y : ByteArray} (hx : okSpot (x, y)) : (Instr.lookup 73 (.map (some b)) (.agg #[.string x, .string y]) true).run Try.prog W = .ok (.tuple #[.string (strOr (f (x, y))), .bool (f (x, y)).isSome]) W := by
  obtain ⟨v, h1, h2, h3⟩ := MapOf.lookOk h keyS Try.underlying73 (zeroStr W) (keyOf_spot hx)
  rw [show (Value.agg #[.string x, .string y]) = spotV (x, y) from rfl, h1]
  cases hf : f (x, y) with
  | none => rw [h2 hf]; rfl
  | some a => rw [show v = .string a from (h3 a hf).1]; rfl
theorem GMap.look {f : FMap} (h : GMap W b n f) {x y : ByteArray} (hx : okSpot (x, y)) : (Instr.lookup 73 (.map (some b)) (.agg #[.string x, .string y]) false).run Try.prog W = .ok (.string (strOr (f (x, y)))) W := by
  obtain ⟨v, h1, h2, h3⟩ := MapOf.look h keyS Try.underlying73 (zeroStr W) (keyOf_spot hx)
  rw [show (Value.agg #[.string x, .string y]) = spotV (x, y) from rfl, h1]
  cases hf : f (x, y) with
  | none => rw [h2 hf]; rfl
  | some a => rw [show v = .string a from (h3 a hf).1]; rfl
theorem GMap.val {f : FMap} (h : GMap W b n f) {k : Spot} {a : ByteArray} (e : f k = some a) : a.size ≤ maxLen := by
  obtain ⟨D, _, hs⟩ := h
  obtain ⟨_, v, _, hv⟩ := hs.2.1 k a e
  exact hv.2
theorem GMap.put {f : FMap} (h : GMap W b n f) (hn : n < maxLen) {x y : ByteArray} (hx : okSpot (x, y)) (s : ByteArray) (hsz : s.size ≤ maxLen) :
    ∃ W', (Instr.mapUpdate 73 (.map (some b)) (.agg #[.string x, .string y]) (.string s)).run Try.prog W = .ok () W' ∧ GMap W' b (n + 1) (putAt f (x, y) s) ∧ W.grownBy W' (some b) := by
  obtain ⟨D, hown, hs⟩ := h
  obtain ⟨W', hrun, ho, hgr⟩ := hown.update keyS Try.underlying73 hn (keyOf_spot hx) (R := rawE) (val := .string s) (d := .held (.string s)) (ps := []) rfl
  have hle := grown_mem hown hgr
  exact ⟨W', hrun, ⟨_, ho, hs.put1 hle hown.isMap (fun y e => lkSpot_inj hx y e) (lkSpot_key hx) ⟨rfl, hsz⟩⟩, hgr⟩
theorem GMap.drop {f : FMap} (h : GMap W b n f) {x y : ByteArray} (hx : okSpot (x, y)) (ty : TypeId) :
    ∃ W', (Builtin.delete_ #[73, 71] ty #[.map (some b), .agg #[.string x, .string y]]).run Try.prog W = .ok (.tuple #[]) W' ∧ GMap W' b n (delAt f (x, y)) ∧ W.grownBy W' (some b) := by
  obtain ⟨D, hown, h1, h2, h3⟩ := h
  obtain ⟨W', hrun, ho, ht⟩ := hown.drop keyS Try.underlying73 (keyOf_spot hx) ty
  refine ⟨W', hrun, ⟨_, ho, fun z hy => ?_, fun z c hy => ?_, fun l hl => ?_⟩, turned_grown ht⟩
  · by_cases e : z = (x, y)
    · subst e; exact has_del_same
    · rw [delAt_other _ e] at hy
      rw [has_del_other (fun e' => e (lkSpot_inj hx _ e'))]; exact h1 z hy
  · by_cases e : z = (x, y)
    · subst e; rw [delAt_same] at hy; cases hy
    · rw [delAt_other _ e] at hy
      obtain ⟨g, u, g1, g2⟩ := h2 z c hy
      have hne : lkSpot z ≠ lkSpot (x, y) := fun e' => e (lkSpot_inj hx _ e')
      exact ⟨by rw [has_del_other hne]; exact g, u, fun q => by rw [atKey_del_other hne]; exact g1 q, g2⟩
  · by_cases e : l = lkSpot (x, y)
    · exact ⟨_, e⟩
    · rw [has_del_other e] at hl; exact h3 l hl
def rowOr : Option (Value × List Nat) → Value
  | none => .slice none 0 0
  | some a => a.1
theorem SMap.lookOk {f : Int → Option (Value × List Nat)} (h : SMap W b n f) {k : Int} (hk : inI64 k) : (Instr.lookup 78 (.map (some b)) (.int .i64 k) true).run Try.prog W = .ok (.tuple #[rowOr (f k), .bool (f k).isSome]) W := by
  obtain ⟨v, h1, h2, h3⟩ := MapOf.lookOk h keyK Try.underlying78 (zeroRow W) (keyOf_i64 hk)
  rw [h1]
  cases hf : f k with
  | none => rw [h2 hf]; rfl
  | some a => rw [show v = a.1 from h3 a hf]; rfl
theorem SMap.put {f : Int → Option (Value × List Nat)} (h : SMap W b n f) (hn : n < maxLen) {k : Int} (hk : inI64 k) (a : Value × List Nat) :
    ∃ W', (Instr.mapUpdate 78 (.map (some b)) (.int .i64 k) a.1).run Try.prog W = .ok () W' ∧ SMap W' b (n + 1) (putAt f k a) ∧ W.grownBy W' (some b) := by
  obtain ⟨D, hown, hs⟩ := h
  obtain ⟨W', hrun, ho, hgr⟩ := hown.update keyK Try.underlying78 hn (keyOf_i64 hk) (R := rawE) (val := a.1) (d := .held a.1) (ps := []) rfl
  have hle := grown_mem hown hgr
  exact ⟨W', hrun, ⟨_, ho, hs.put hle hown.isMap intKey_inj (keyK.key (keyOf_i64 hk)) rfl⟩, hgr⟩
theorem SMap.drop {f : Int → Option (Value × List Nat)} (h : SMap W b n f) {k : Int} (hk : inI64 k) (ty : TypeId) :
    ∃ W', (Builtin.delete_ #[78, 3] ty #[.map (some b), .int .i64 k]).run Try.prog W = .ok (.tuple #[]) W' ∧ SMap W' b n (delAt f k) ∧ W.grownBy W' (some b) := by
  obtain ⟨D, hown, h1, h2, h3⟩ := h
  obtain ⟨W', hrun, ho, ht⟩ := hown.drop keyK Try.underlying78 (keyOf_i64 hk) ty
  refine ⟨W', hrun, ⟨_, ho, fun y hy => ?_, fun y c hy => ?_, fun l hl => ?_⟩, turned_grown ht⟩
  · by_cases e : y = k
    · subst e; exact has_del_same
    · rw [delAt_other _ e] at hy
      rw [has_del_other (fun e' => e (intKey_inj _ _ e'))]; exact h1 y hy
  · by_cases e : y = k
    · subst e; rw [delAt_same] at hy; cases hy
    · rw [delAt_other _ e] at hy
      obtain ⟨g, u, g1, g2⟩ := h2 y c hy
      have hne : intKey y ≠ intKey k := fun e' => e (intKey_inj _ _ e')
      exact ⟨by rw [has_del_other hne]; exact g, u, fun z => by rw [atKey_del_other hne]; exact g1 z, g2⟩
  · by_cases e : l = intKey k
    · exact ⟨k, e⟩
    · rw [has_del_other e] at hl; exact h3 l hl
end
/-- Texts that stand in new cells. -/
theorem strs_rv1 {m : Mem} {b : Nat} {x : ByteArray} (h0 : m b 0 = some (.string x)) (hx : x.size ≤ maxLen) : tStrs.rv m [.slice (some ⟨b, 0, none⟩) 1 1] [x] := by
  refine ⟨some ⟨b, 0, none⟩, 1, rfl, Nat.le_refl 1, by unfold maxLen; decide, fun _ => ⟨b, 0, rfl, fun k hk => ?_⟩⟩
  have hk : k < 1 := hk
  match k, hk with
  | 0, _ => exact ⟨[.string x], fun j v hj => by match j, hj with | 0, hj => simp at hj; subst hj; exact h0, rfl, hx⟩
theorem strs_rv2 {m : Mem} {b : Nat} {x y : ByteArray} (h0 : m b 0 = some (.string x)) (h1 : m b 1 = some (.string y)) (hx : x.size ≤ maxLen) (hy : y.size ≤ maxLen) : tStrs.rv m [.slice (some ⟨b, 0, none⟩) 2 2] [x, y] := by
  refine ⟨some ⟨b, 0, none⟩, 2, rfl, Nat.le_refl 2, by unfold maxLen; decide, fun _ => ⟨b, 0, rfl, fun k hk => ?_⟩⟩
  have hk : k < 2 := hk
  match k, hk with
  | 0, _ => exact ⟨[.string x], fun j v hj => by match j, hj with | 0, hj => simp at hj; subst hj; exact h0, rfl, hx⟩
  | 1, _ => exact ⟨[.string y], fun j v hj => by match j, hj with | 0, hj => simp at hj; subst hj; exact h1, rfl, hy⟩
end Go.Proofs.Ytbmpoecmjmmngaa
