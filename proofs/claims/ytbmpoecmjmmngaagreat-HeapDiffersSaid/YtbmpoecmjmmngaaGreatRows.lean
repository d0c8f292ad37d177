/-
  No cell of these rows narrows 'for every input' (looked for: loops, veiled, ifaces, maps, wideKeys, modest, calm, conditions, laid).
  DERIVED. THE GIVEN ROWS OF THIS SEAT. 3 by the template 'for every input the law returns true; each argument reads behind the call as it read before'; 0 by the template 'total and deterministic' (their statements: YtbmpoecmjmmngaaGreatTotals.lean).
  GIVEN WITH THE SEED: the statements are not yours to turn. If you find one false, say at which input.
  Laid BY PROGRAM, IN A SANDBOX (cutbox-rows.mjs): the forced cells as the released guide's own fill.sh prints them over the translation 3a7d1c5bdf034659… (all of the seat's roots in one cut). By AI agents, Wed Nov 11 2026. No macro, syntax, notation, axiom, sorry.
-/
import Derived.Test.YtbmpoecmjmmngaaGreatChecked
import GoSem.Claim
import GoSem.ClaimJoined
import GoSem.ClaimMapViews
import Derived.JoinedTies
import Derived.KernelRfl
namespace Go.Proofs.YtbmpoecmjmmngaaGreat
/- THE CELL 'sum', in the pinned program and in every row, IS THE sha256 OF THE DUMP (.gsa) THAT YtbmpoecmjmmngaaGreatProg.lean LOADS. Nothing in Lean hashes anything: it is a label: what it is worth is what the hold of that sum in a sandbox is worth. -/
noncomputable def Tryz.pinned : Pinned := { name := "ytbmpoecmjmmngaagreat", sum := "3a7d1c5bdf034659cb4359d81953a25e873ea225407cfabef419f83957c60a87", checked := Tryz.checked }
namespace Rows
def none {H : Type} : Left H := { results := [], args := [] }

/-- 'tidewrightlaw13.HeapDiffers': WHATEVER THE INPUT: true; the input reads as it did. -/
def heapDiffersSpec : ChangeSpec := { name := "heapDiffers", fn := fun _ => fun
  | [d1, d2] => { results := [.lit (.bool true)], args := [d1, d2] }
  | _ => none }
def heapDiffersRow : OpenClaim := { program := "ytbmpoecmjmmngaagreat", sum := "3a7d1c5bdf034659cb4359d81953a25e873ea225407cfabef419f83957c60a87", func := "tidewright/tidewrightlaw13.HeapDiffers", spec := "heapDiffers", inPlace := ["maps.clone"], unfollowed := true, recurses := true, plainKeys := false, apart := false }
def HeapDiffersSaid : Prop := heapDiffersRow.holds Tryz.pinned (OpenSpec.ofChange heapDiffersSpec)

/-- ITS FALSE NEIGHBOUR: 'it returns false'. Refute it at one input. -/
def heapDiffersWrong : ChangeSpec := { name := "heapDiffers", fn := fun _ => fun
  | [d1, d2] => { results := [.lit (.bool false)], args := [d1, d2] }
  | _ => none }
def HeapDiffersWrongFalsely : Prop := heapDiffersRow.holds Tryz.pinned (OpenSpec.ofChange heapDiffersWrong)

/-- 'tidewrightlaw13.HeapRuns': WHATEVER THE INPUT: true; the input reads as it did. -/
def heapRunsSpec : ChangeSpec := { name := "heapRuns", fn := fun _ => fun
  | [d1, d2] => { results := [.lit (.bool true)], args := [d1, d2] }
  | _ => none }
def heapRunsRow : OpenClaim := { program := "ytbmpoecmjmmngaagreat", sum := "3a7d1c5bdf034659cb4359d81953a25e873ea225407cfabef419f83957c60a87", func := "tidewright/tidewrightlaw13.HeapRuns", spec := "heapRuns", inPlace := ["maps.clone"], unfollowed := true, recurses := true, plainKeys := false, apart := false }
def HeapRunsSaid : Prop := heapRunsRow.holds Tryz.pinned (OpenSpec.ofChange heapRunsSpec)

/-- ITS FALSE NEIGHBOUR: 'it returns false'. Refute it at one input. -/
def heapRunsWrong : ChangeSpec := { name := "heapRuns", fn := fun _ => fun
  | [d1, d2] => { results := [.lit (.bool false)], args := [d1, d2] }
  | _ => none }
def HeapRunsWrongFalsely : Prop := heapRunsRow.holds Tryz.pinned (OpenSpec.ofChange heapRunsWrong)

/-- 'tidewrightlaw13.HeapRestores': WHATEVER THE INPUT: true; the input reads as it did. -/
def heapRestoresSpec : ChangeSpec := { name := "heapRestores", fn := fun _ => fun
  | [d1, d2, d3] => { results := [.lit (.bool true)], args := [d1, d2, d3] }
  | _ => none }
def heapRestoresRow : OpenClaim := { program := "ytbmpoecmjmmngaagreat", sum := "3a7d1c5bdf034659cb4359d81953a25e873ea225407cfabef419f83957c60a87", func := "tidewright/tidewrightlaw13.HeapRestores", spec := "heapRestores", inPlace := ["maps.clone"], unfollowed := true, recurses := true, plainKeys := false, apart := false }
def HeapRestoresSaid : Prop := heapRestoresRow.holds Tryz.pinned (OpenSpec.ofChange heapRestoresSpec)

/-- ITS FALSE NEIGHBOUR: 'it returns false'. Refute it at one input. -/
def heapRestoresWrong : ChangeSpec := { name := "heapRestores", fn := fun _ => fun
  | [d1, d2, d3] => { results := [.lit (.bool false)], args := [d1, d2, d3] }
  | _ => none }
def HeapRestoresWrongFalsely : Prop := heapRestoresRow.holds Tryz.pinned (OpenSpec.ofChange heapRestoresWrong)

/- THE SECOND FORM. 'bulk': how many values and letters a reading holds, each counted each time it is reached (what is shared counts as often as it is met; a slice's spare places count too). A statement '..UptoSaid' is the law's where the arguments, and the package variables that the reading takes, are together of bulk at most 1048576: NARROWER than '..Said'. Prove '..Said' where nothing that the law and all that it calls make is longer than what came in: it says more and counts as full. Else prove '..UptoSaid'. A law counts once. -/
mutual
def uptoBulk {H : Type} : DataW H → Nat
  | .lit (.string bytes) => bytes.length + 1
  | .lit _ => 1
  | .nil => 1
  | .ptr d => uptoBulk d + 1
  | .slice elems spare => uptoBulkAll elems + uptoBulkAll spare + 1
  | .agg parts => uptoBulkAll parts + 1
  | .iface _ d => uptoBulk d + 1
  | .map entries => uptoBulkEntries entries + 1
  | .held _ => 1
def uptoBulkAll {H : Type} : List (DataW H) → Nat
  | [] => 0
  | d :: r => uptoBulk d + uptoBulkAll r
def uptoBulkEntries {H : Type} : List (Lit × DataW H) → Nat
  | [] => 0
  | x :: r => uptoBulkEntry x + uptoBulkEntries r
def uptoBulkEntry {H : Type} : Lit × DataW H → Nat
  | (.string bytes, d) => bytes.length + uptoBulk d + 1
  | (_, d) => uptoBulk d + 1
 end
def uptoSmall : (H : Type) → List (DataW H) → Bool := fun _ ds => decide (uptoBulkAll ds ≤ 1048576)
def OpenSpec.upto (s : _root_.Go.ChangeSpec) : _root_.Go.OpenSpec := { _root_.Go.OpenSpec.ofChange s with cond := some uptoSmall }

/-- 'tidewrightlaw13.HeapDiffers', WHERE WHAT IT READS IS OF BULK AT MOST 1048576: true; the input reads as it did. -/
def heapDiffersUptoRow : OpenClaim := { program := "ytbmpoecmjmmngaagreat", sum := "3a7d1c5bdf034659cb4359d81953a25e873ea225407cfabef419f83957c60a87", func := "tidewright/tidewrightlaw13.HeapDiffers", spec := "heapDiffers", inPlace := ["maps.clone"], unfollowed := true, recurses := true, plainKeys := false, apart := false, narrowed := true }
def HeapDiffersUptoSaid : Prop := heapDiffersUptoRow.holds Tryz.pinned (OpenSpec.upto heapDiffersSpec)

/-- 'tidewrightlaw13.HeapRuns', WHERE WHAT IT READS IS OF BULK AT MOST 1048576: true; the input reads as it did. -/
def heapRunsUptoRow : OpenClaim := { program := "ytbmpoecmjmmngaagreat", sum := "3a7d1c5bdf034659cb4359d81953a25e873ea225407cfabef419f83957c60a87", func := "tidewright/tidewrightlaw13.HeapRuns", spec := "heapRuns", inPlace := ["maps.clone"], unfollowed := true, recurses := true, plainKeys := false, apart := false, narrowed := true }
def HeapRunsUptoSaid : Prop := heapRunsUptoRow.holds Tryz.pinned (OpenSpec.upto heapRunsSpec)

/-- 'tidewrightlaw13.HeapRestores', WHERE WHAT IT READS IS OF BULK AT MOST 1048576: true; the input reads as it did. -/
def heapRestoresUptoRow : OpenClaim := { program := "ytbmpoecmjmmngaagreat", sum := "3a7d1c5bdf034659cb4359d81953a25e873ea225407cfabef419f83957c60a87", func := "tidewright/tidewrightlaw13.HeapRestores", spec := "heapRestores", inPlace := ["maps.clone"], unfollowed := true, recurses := true, plainKeys := false, apart := false, narrowed := true }
def HeapRestoresUptoSaid : Prop := heapRestoresUptoRow.holds Tryz.pinned (OpenSpec.upto heapRestoresSpec)

end Rows
end Go.Proofs.YtbmpoecmjmmngaaGreat
