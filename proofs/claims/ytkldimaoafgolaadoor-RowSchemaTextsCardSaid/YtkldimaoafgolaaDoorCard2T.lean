/- What the card of RowSchemaTexts needs: five tables in the world, MaxLen, a world for the witness, readings of schemas. -/
import Derived.Test.YtkldimaoafgolaaDoorCards
import Derived.Test.YtkldimaoafgolaaDoorTie
import Derived.Test.YtkldimaoafgolaaDoorLaw
import Derived.Test.YtkldimaoafgolaaDoorText
import Derived.Test.YtkldimaoafgolaaDoorName
import Derived.WalkKit
import Derived.ProofKit
import Derived.OpenShut
import Derived.Deep.DeepHandedRow
import Derived.Lib.LaidTab
import Derived.Lib.LaidU8
namespace Go.Proofs.YtkldimaoafgolaaDoor
open Go.ChangeShapes Go.WideShapes Go.ChangeAt Go.RowKit

noncomputable def gPow : Nat := (Tryd.prog.globalNamed "internal/strconv.uint64pow10").getD 0
noncomputable def gB32 : Nat := (Tryd.prog.globalNamed "math/bits.deBruijn32tab").getD 0
noncomputable def gB64 : Nat := (Tryd.prog.globalNamed "math/bits.deBruijn64tab").getD 0
noncomputable def gAcc : Nat := (Tryd.prog.globalNamed "unicode/utf8.acceptRanges").getD 0
noncomputable def gFst : Nat := (Tryd.prog.globalNamed "unicode/utf8.first").getD 0
theorem gPow_is : Tryd.prog.globalNamed "internal/strconv.uint64pow10" = some gPow := by kernel_rfl
theorem gPow_type : (Tryd.prog.globals[gPow]?).map (·.type) = some 162 := by kernel_rfl
theorem cellsPow : Tryd.prog.cellsOf 162 = 20 := by kernel_rfl
theorem cellsU64 : Tryd.prog.cellsOf 62 = 1 := by kernel_rfl
theorem powData : (Rows.laid_internal_strconv_uint64pow10 : DataW Unit) = Lib.tabData .u64 Lib.pow10Tab := by kernel_rfl
abbrev lay5 : List (String × DataW Unit) := ("math/bits.deBruijn32tab", Rows.laid_math_bits_deBruijn32tab) :: ("math/bits.deBruijn64tab", Rows.laid_math_bits_deBruijn64tab) :: ("internal/strconv.uint64pow10", Rows.laid_internal_strconv_uint64pow10) :: ("unicode/utf8.acceptRanges", Rows.laid_unicode_utf8_acceptRanges) :: ("unicode/utf8.first", Rows.laid_unicode_utf8_first) :: []
theorem tabOf {W : World} (h : laidMet Tryd.prog lay5 W) : Tryd.Tab W := by
  obtain ⟨g', t', cs, fuel, p, hg', ht', hvar, hd⟩ := Lib.laidMet.reads h (n := "internal/strconv.uint64pow10") (d := Rows.laid_internal_strconv_uint64pow10) (by simp)
  rw [powData] at hd
  obtain rfl := Option.some.inj (gPow_is.symm.trans hg')
  obtain rfl := Option.some.inj (gPow_type.symm.trans ht')
  show W.var? Tryd.prog _ = _
  rw [hvar, ← Lib.cells_of_tab Tryd.underlying162 Tryd.underlying62 cellsU64 cellsPow hd]
theorem maxOf {W : World} (h : W.ShapedOpen Tryd.prog) : ∃ m : Int, W.cell? ⟨0, 0, none⟩ = some (.int .i64 m) :=
  Go.Proofs.cell_of_shapedOpen_int (zero := #[.int .i64 0]) (t := 3) h (of_decide_eq_true (by kernel_rfl)) (by kernel_rfl) rfl (by kernel_rfl) (by kernel_rfl) Tryd.underlying3

def litCells : DataW Unit → Array Value
  | .agg l => (l.map fun | .lit (.int k z) => #[Value.int k z] | .agg [.lit (.int k z), .lit (.int k' z')] => #[Value.int k z, Value.int k' z'] | _ => #[]).toArray.flatten
  | _ => #[]
noncomputable def layRow (a : Array Value) : Obj → Obj
  | .cells _ t frozen => .cells a t frozen
  | o => o
/-- A world for the witness: the settled one, the tables holding what their initialisers lay. -/
noncomputable def laidWorld (os : Os) : World :=
  { World.holding Tryd.prog os ⟨#[], #[], []⟩ with heap := (((((World.holding Tryd.prog os ⟨#[], #[], []⟩).heap.modify gB32 (layRow (litCells Rows.laid_math_bits_deBruijn32tab))).modify gB64 (layRow (litCells Rows.laid_math_bits_deBruijn64tab))).modify gPow (layRow (litCells Rows.laid_internal_strconv_uint64pow10))).modify gAcc (layRow (litCells Rows.laid_unicode_utf8_acceptRanges))).modify gFst (layRow (litCells Rows.laid_unicode_utf8_first)) }

/-! Arguments: schemas, texts. -/
set_option maxRecDepth 100000 in
theorem reads_col : Reads Tryd.prog 69 tCol := fun H enc w n cs d h => by
  obtain ⟨xs, n', _, _, hl, hx, hg⟩ := DataW.trod_struct Tryd.underlying69 h
  rw [show Tryd.prog.cellsOf 69 = 2 from by kernel_rfl] at hl
  have g0 := hg 0 _ rfl
  obtain ⟨x0, r0⟩ := field_read (reads_str Tryd.underlying9) 0 1 rfl rfl (by kernel_rfl) g0 (by rw [hx]; decide)
  have g1 := hg 1 _ rfl
  obtain ⟨x1, r1⟩ := field_read (reads_int Tryd.underlying3) 1 1 rfl rfl (by kernel_rfl) g1 (by rw [hx]; decide)
  match cs, hl with
  | [c0, c1], _ =>
    obtain ⟨e0, i0⟩ := r0
    obtain ⟨e1, i1⟩ := r1
    simp at e0 e1
    exact ⟨⟨x0, x1⟩, by rw [e0, e1], i0, i1⟩
theorem reads_schema : Reads Tryd.prog 23 tSchema := reads_slice Tryd.underlying23 (by kernel_rfl) (by decide) reads_col
end Go.Proofs.YtkldimaoafgolaaDoor
