/- Readings of schemas among the arguments. -/
import Derived.Test.YtkldimaoafgolaaDoorCard2
import Derived.Test.YtkldimaoafgolaaDoorName
namespace Go.Proofs.YtkldimaoafgolaaDoor
open Go.ChangeShapes Go.WideShapes Go.ChangeAt Go.RowKit
set_option maxRecDepth 100000 in
theorem reads_col : Reads Tryd.prog 69 tCol := fun H enc w n cs d h => by
  obtain ⟨xs, n', _, _, hl, hx, hg⟩ := DataW.trod_struct Tryd.underlying69 h
  rw [show Tryd.prog.cellsOf 69 = 2 from by kernel_rfl] at hl
  have g0 := hg 0 _ rfl
  obtain ⟨x0, r0⟩ := field_read (reads_str Tryd.underlying9) 0 1 rfl rfl (by kernel_rfl) g0 (by rw [hx]; decide)
  have g1 := hg 1 _ rfl
  obtain ⟨x1, r1⟩ := field_read (reads_int Tryd.underlying3) 1 1 rfl rfl (by kernel_rfl) g1 (by rw [hx]; decide)
  match cs, hl with
  | [c0, c1], _ =>
    obtain ⟨e0, i0⟩ := r0
    obtain ⟨e1, i1⟩ := r1
    simp at e0 e1
    exact ⟨⟨x0, x1⟩, by rw [e0, e1], i0, i1⟩
theorem reads_schema : Reads Tryd.prog 23 tSchema := reads_slice Tryd.underlying23 (by kernel_rfl) (by decide) reads_col
end Go.Proofs.YtkldimaoafgolaaDoor
