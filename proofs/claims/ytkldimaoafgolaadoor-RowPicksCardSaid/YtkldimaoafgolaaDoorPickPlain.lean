/- Plain facts of RowPicks. -/
import Derived.Test.YtkldimaoafgolaaDoorConcR
namespace Go.Proofs.YtkldimaoafgolaaDoor

theorem sameRow_refl (r : List Val) : sameRow r r = true := sameRow_true rfl (fun j h h' => by simp [valEq])
def firstCols (n : Nat) : List Int := (List.range n).map Int.ofNat
theorem firstCols_succ (n : Nat) : firstCols (n + 1) = firstCols n ++ [(n : Int)] := by simp [firstCols, List.range_succ]
theorem firstCols_length (n : Nat) : (firstCols n).length = n := by simp [firstCols]
theorem proj_first (a b : List Val) (hv : validRow (a ++ b) = true) (ha : a.length ≤ 8) : projOf (a ++ b) (firstCols a.length) = (a, 0) := by
  have h1 : (firstCols a.length).any (colBad (a ++ b).length) = false := by
    rw [List.any_eq_false]
    intro c hc
    obtain ⟨i, hi, rfl⟩ := List.mem_map.1 hc
    rw [List.mem_range] at hi
    simp [colBad]
    omega
  have h2 : (firstCols a.length).map (pickAt (a ++ b)) = a := by
    apply List.ext_getElem
    · simp [firstCols]
    · intro i hi hi2
      simp only [firstCols, List.getElem_map, List.getElem_range, pickAt, Int.toNat_natCast]
      show (a ++ b)[i]?.getD _ = a[i]
      rw [List.getElem?_append_left hi2, List.getElem?_eq_getElem hi2]
      rfl
  rw [(projOf_cases _ _).2.2.2 hv h1 (by rw [firstCols_length]; omega), h2]
theorem valid_append {a b : List Val} (ha : validRow a = true) (hb : validRow b = true) (h : ¬ 8 < a.length + b.length) : validRow (a ++ b) = true := by
  unfold validRow at *
  simp at *
  exact ⟨by omega, ha.2, hb.2⟩
end Go.Proofs.YtkldimaoafgolaaDoor
