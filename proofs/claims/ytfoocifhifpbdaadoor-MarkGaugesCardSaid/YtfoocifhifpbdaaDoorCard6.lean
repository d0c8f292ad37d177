/- What the cards of chapter 06's door share: tables and errors in the world, a world for the witness. -/
import Derived.Test.YtfoocifhifpbdaaDoorCards
import Derived.Test.YtfoocifhifpbdaaDoorTie
import Derived.Test.YtfoocifhifpbdaaDoorLaw
import Derived.Test.YtfoocifhifpbdaaDoorItoa
import Derived.WalkKit
import Derived.ProofKit
import Derived.OpenShut
import Derived.Deep.DeepHandedRow
import Derived.Lib.LaidTab
import Derived.Lib.LaidU8
import Derived.Stop.LaidErr
namespace Go.Proofs.YtfoocifhifpbdaaDoor
open Go.ChangeShapes Go.WideShapes Go.ChangeAt Go.RowKit

noncomputable def gPow : Nat := (Tryd.prog.globalNamed "internal/strconv.uint64pow10").getD 0
noncomputable def gB32 : Nat := (Tryd.prog.globalNamed "math/bits.deBruijn32tab").getD 0
noncomputable def gB64 : Nat := (Tryd.prog.globalNamed "math/bits.deBruijn64tab").getD 0
theorem gPow_is : Tryd.prog.globalNamed "internal/strconv.uint64pow10" = some gPow := by kernel_rfl
theorem gPow_type : (Tryd.prog.globals[gPow]?).map (·.type) = some 98 := by kernel_rfl
theorem cellsPow : Tryd.prog.cellsOf 98 = 20 := by kernel_rfl
theorem cellsU64 : Tryd.prog.cellsOf 76 = 1 := by kernel_rfl
theorem powData : (Rows.laid_internal_strconv_uint64pow10 : DataW Unit) = Lib.tabData .u64 Lib.pow10Tab := by kernel_rfl
abbrev lay5 : List (String × DataW Unit) := ("math/bits.deBruijn32tab", Rows.laid_math_bits_deBruijn32tab) :: ("math/bits.deBruijn64tab", Rows.laid_math_bits_deBruijn64tab) :: ("internal/strconv.uint64pow10", Rows.laid_internal_strconv_uint64pow10) :: ("strconv.ErrRange", Rows.laid_strconv_ErrRange) :: ("strconv.ErrSyntax", Rows.laid_strconv_ErrSyntax) :: []
theorem tabOf {W : World} (h : laidMet Tryd.prog lay5 W) : Tryd.Tab W := by
  obtain ⟨g', t', cs, fuel, p, hg', ht', hvar, hd⟩ := Lib.laidMet.reads h (n := "internal/strconv.uint64pow10") (d := Rows.laid_internal_strconv_uint64pow10) (by simp)
  rw [powData] at hd
  obtain rfl := Option.some.inj (gPow_is.symm.trans hg')
  obtain rfl := Option.some.inj (gPow_type.symm.trans ht')
  show W.var? Tryd.prog _ = _
  rw [hvar, ← Lib.cells_of_tab Tryd.underlying98 Tryd.underlying76 cellsU64 cellsPow hd]
theorem gES : Tryd.prog.globalNamed "strconv.ErrSyntax" = some 1 := by kernel_rfl
theorem gESType : (Tryd.prog.globals[1]?).map (·.type) = some 51 := by kernel_rfl
theorem gER : Tryd.prog.globalNamed "strconv.ErrRange" = some 2 := by kernel_rfl
theorem gERType : (Tryd.prog.globals[2]?).map (·.type) = some 51 := by kernel_rfl
theorem cellsES : Tryd.prog.cellsOf 96 = 1 := by kernel_rfl
theorem cellsStr : Tryd.prog.cellsOf 9 = 1 := by kernel_rfl
theorem star : "*" ++ "errors.errorString" = "*errors.errorString" := by decide
theorem rowES (u : TypeId) (h : Tryd.prog.typeName? 3 u = some "*errors.errorString") : u = 94 :=
  typeName_ptr_named (nm := "errors.errorString") (by rw [star]; kernel_rfl) (by kernel_rfl) (by decide) u (by rw [star]; exact h)
theorem errsOf {W : World} (h : laidMet Tryd.prog lay5 W) : Tryd.Errs W := by
  obtain ⟨a0, s0, hv0, -, -, -⟩ := laid_sentinel h.tail.tail.tail gER gERType Tryd.underlying51 rowES Tryd.underlying94 Tryd.underlying96 rfl rfl Tryd.underlying9 cellsES cellsStr
  obtain ⟨a1, s1, hv1, -, -, -⟩ := laid_sentinel h.tail.tail.tail.tail gES gESType Tryd.underlying51 rowES Tryd.underlying94 Tryd.underlying96 rfl rfl Tryd.underlying9 cellsES cellsStr
  exact ⟨⟨_, _, by have h0 := World.var?_cell gES hv1 0; simpa using h0⟩, ⟨_, _, by have h0 := World.var?_cell gER hv0 0; simpa using h0⟩⟩
theorem maxOf {W : World} (h : W.ShapedOpen Tryd.prog) : Tryd.MaxIs W :=
  Go.Proofs.cell_of_shapedOpen_int (zero := #[.int .i64 0]) (t := 3) h (of_decide_eq_true (by kernel_rfl)) (by kernel_rfl) rfl (by kernel_rfl) (by kernel_rfl) Tryd.underlying3

noncomputable def litCells : DataW Unit → Array Value
  | .agg l => (l.map fun | .lit (.int k z) => Value.int k z | _ => Value.int .u8 0).toArray
  | _ => #[]
noncomputable def layRow (a : Array Value) : Obj → Obj
  | .cells _ t frozen => .cells a t frozen
  | o => o
abbrev synS : ByteArray := { data := #[105, 110, 118, 97, 108, 105, 100, 32, 115, 121, 110, 116, 97, 120] }
abbrev rngS : ByteArray := { data := #[118, 97, 108, 117, 101, 32, 111, 117, 116, 32, 111, 102, 32, 114, 97, 110, 103, 101] }
/-- So many blocks has the settled world. -/
noncomputable def low : Nat := (World.holding Tryd.prog default ⟨#[], #[], []⟩).heap.size
/-- A world for the witness: the settled one, the tables holding what their initialisers lay, the two errors' structs behind. -/
noncomputable def laidWorld (os : Os) : World :=
  let w0 := World.holding Tryd.prog os ⟨#[.cells #[.string synS] 96, .cells #[.string rngS] 96], #[], []⟩
  { w0 with heap := ((((w0.heap.modify gB32 (layRow (litCells Rows.laid_math_bits_deBruijn32tab))).modify gB64 (layRow (litCells Rows.laid_math_bits_deBruijn64tab))).modify gPow (layRow (litCells Rows.laid_internal_strconv_uint64pow10))).modify 1 (layRow #[.iface 94 (.pointer (some ⟨low, 0, none⟩))])).modify 2 (layRow #[.iface 94 (.pointer (some ⟨low + 1, 0, none⟩))]) }
end Go.Proofs.YtfoocifhifpbdaaDoor
