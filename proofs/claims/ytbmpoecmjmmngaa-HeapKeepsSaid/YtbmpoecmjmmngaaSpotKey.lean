/- Spots as keys of maps: their literals. -/
import Derived.Test.YtbmpoecmjmmngaaSpot
import Derived.Test.YtbmpoecmjmmngaaMap
import Derived.Test.YtbmpoecmjmmngaaLaw
import Derived.DeepKeys4
namespace Go.Proofs.Ytbmpoecmjmmngaa
open Go.RowKit Go.Maps

abbrev spotV (x : Spot) : Value := .agg #[.string x.1, .string x.2]
def okSpot (x : Spot) : Prop := x.1.size ≤ maxLen ∧ x.2.size ≤ maxLen
open Classical in
noncomputable def lkSpot (x : Spot) : Lit := if okSpot x then .string (keyBytes [.string x.1.data.toList, .string x.2.data.toList]) else .bool false
theorem cellsSpot : Try.prog.cellsOf 71 = 2 := by kernel_rfl
theorem cellsStr : Try.prog.cellsOf 9 = 1 := by kernel_rfl
theorem keyTypeSpot : Try.prog.keyType 71 = true := by kernel_rfl
theorem rowSpot : (71 : TypeId) < Try.prog.types.size := of_decide_eq_true (by kernel_rfl)
theorem keyS : Keyed Try.prog 71 := Keyed.of_law (deep_law_laid Try.laidOut (m := 2) (by omega) rowSpot (by kernel_rfl) (by rw [Try.underlying71]))
theorem size_pos : ∃ n, Try.prog.types.size = n + 1 := Nat.exists_eq_add_one.2 (Nat.lt_of_le_of_lt (Nat.zero_le _) rowSpot)
def strLits : Value → Option (List Lit)
  | .string s => if s.size ≤ maxLen then some [.string s.data.toList] else none
  | _ => none
theorem lits_str (n : Nat) (c : Value) : Try.prog.keyLits (n + 1) 9 [c] = strLits c := by
  unfold Program.keyLits
  rw [Try.underlying9]
  cases c <;> rfl
set_option maxRecDepth 100000 in
theorem keyOf_spot_eq (c0 c1 : Value) : keyOf Try.prog 71 (.agg #[c0, c1]) =
    match c0, c1 with | .string s, .string t => if s.size ≤ maxLen ∧ t.size ≤ maxLen then some (.string (keyBytes [.string s.data.toList, .string t.data.toList])) else none | _, _ => none := by
  obtain ⟨n, hn⟩ := size_pos
  unfold keyOf
  rw [Try.underlying71]
  simp only [keyTypeSpot, Value.formed, Try.underlying71, cellsSpot]
  rw [hn]
  unfold Program.keyLits
  rw [Try.underlying71]
  simp only [cellsSpot, Value.cells, cellsStr]
  simp [lits_str, cellsStr]
  cases c0 <;> cases c1 <;> simp [strLits]
  rename_i s t
  by_cases hs : s.size ≤ maxLen <;> by_cases ht : t.size ≤ maxLen <;> simp [hs, ht]
theorem keyOf_spot {x : Spot} (h : okSpot x) : keyOf Try.prog 71 (spotV x) = some (lkSpot x) := by
  rw [keyOf_spot_eq]
  unfold lkSpot
  rw [if_pos h]
  exact if_pos h
set_option maxRecDepth 100000 in
theorem keyOf_spot_inv {v : Value} {l : Lit} (h : keyOf Try.prog 71 v = some l) : ∃ x, v = spotV x ∧ l = lkSpot x ∧ okSpot x := by
  have hf : v.formed Try.prog 71 = true := by
    unfold keyOf at h
    rw [Try.underlying71] at h
    cases hv : v.formed Try.prog 71 with
    | true => rfl
    | false => simp [hv] at h
  have : ∃ c0 c1, v = .agg #[c0, c1] := by
    cases v with
    | agg cs =>
      simp only [Value.formed, Try.underlying71, cellsSpot, beq_iff_eq] at hf
      obtain ⟨l⟩ := cs
      match l, hf with
      | [c0, c1], _ => exact ⟨c0, c1, rfl⟩
    | _ => simp [Value.formed, Try.underlying71] at hf
  obtain ⟨c0, c1, rfl⟩ := this
  rw [keyOf_spot_eq] at h
  cases c0 <;> cases c1 <;> simp at h
  rename_i s t
  obtain ⟨hok, rfl⟩ := h
  have hok' : okSpot (s, t) := hok
  exact ⟨(s, t), rfl, by unfold lkSpot; rw [if_pos hok'], hok'⟩
theorem spotV_inj {x y : Spot} (h : spotV x = spotV y) : x = y := by
  simp at h
  exact Prod.ext h.1 h.2
theorem lkSpot_inj {x : Spot} (hx : okSpot x) (y : Spot) (h : lkSpot y = lkSpot x) : y = x := by
  by_cases hy : okSpot y
  · have h1 := keyOf_spot hx
    have h2 := keyOf_spot hy
    rw [h] at h2
    exact spotV_inj (keyS.inj h2 h1)
  · unfold lkSpot at h
    rw [if_pos hx, if_neg hy] at h
    cases h
theorem lkSpot_key {x : Spot} (hx : okSpot x) : WideAt.IsKeyLit (lkSpot x) := keyS.key (keyOf_spot hx)
end Go.Proofs.Ytbmpoecmjmmngaa
