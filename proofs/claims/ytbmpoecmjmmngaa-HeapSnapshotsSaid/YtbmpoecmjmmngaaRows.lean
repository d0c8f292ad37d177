/-
  No cell of these rows narrows 'for every input' (looked for: loops, veiled, ifaces, maps, wideKeys, modest, calm, conditions, laid).
  DERIVED. THE GIVEN ROWS OF THIS SEAT. 3 by the template 'for every input the law returns true; each argument reads behind the call as it read before'; 0 by the template 'total and deterministic' (their statements: YtbmpoecmjmmngaaTotals.lean).
  GIVEN WITH THE SEED: the statements are not yours to turn. If you find one false, say at which input.
  Laid BY PROGRAM, IN A SANDBOX (cutbox-rows.mjs): the forced cells as the released guide's own fill.sh prints them over the translation 287166d51141ee3c… (all of the seat's roots in one cut). By AI agents, Wed Nov 11 2026. No macro, syntax, notation, axiom, sorry.
-/
import Derived.Test.YtbmpoecmjmmngaaChecked
import GoSem.Claim
import GoSem.ClaimJoined
import GoSem.ClaimMapViews
import Derived.JoinedTies
import Derived.KernelRfl
namespace Go.Proofs.Ytbmpoecmjmmngaa
/- THE CELL 'sum', in the pinned program and in every row, IS THE sha256 OF THE DUMP (.gsa) THAT YtbmpoecmjmmngaaProg.lean LOADS. Nothing in Lean hashes anything: it is a label: what it is worth is what the hold of that sum in a sandbox is worth. -/
noncomputable def Try.pinned : Pinned := { name := "ytbmpoecmjmmngaa", sum := "287166d51141ee3c4b69ef8402958ee11a222825a268a0b84996c96939244ede", checked := Try.checked }
namespace Rows
def none {H : Type} : Left H := { results := [], args := [] }

/-- 'tidewrightlaw13.HeapKeeps': WHATEVER THE INPUT: true; the input reads as it did. -/
def heapKeepsSpec : ChangeSpec := { name := "heapKeeps", fn := fun _ => fun
  | [d1, d2, d3] => { results := [.lit (.bool true)], args := [d1, d2, d3] }
  | _ => none }
def heapKeepsRow : OpenClaim := { program := "ytbmpoecmjmmngaa", sum := "287166d51141ee3c4b69ef8402958ee11a222825a268a0b84996c96939244ede", func := "tidewright/tidewrightlaw13.HeapKeeps", spec := "heapKeeps", inPlace := ["maps.clone"], unfollowed := true, recurses := true, plainKeys := false, apart := false }
def HeapKeepsSaid : Prop := heapKeepsRow.holds Try.pinned (OpenSpec.ofChange heapKeepsSpec)

/-- ITS FALSE NEIGHBOUR: 'it returns false'. Refute it at one input. -/
def heapKeepsWrong : ChangeSpec := { name := "heapKeeps", fn := fun _ => fun
  | [d1, d2, d3] => { results := [.lit (.bool false)], args := [d1, d2, d3] }
  | _ => none }
def HeapKeepsWrongFalsely : Prop := heapKeepsRow.holds Try.pinned (OpenSpec.ofChange heapKeepsWrong)

/-- 'tidewrightlaw13.HeapSnapshots': WHATEVER THE INPUT: true; the input reads as it did. -/
def heapSnapshotsSpec : ChangeSpec := { name := "heapSnapshots", fn := fun _ => fun
  | [d1, d2, d3] => { results := [.lit (.bool true)], args := [d1, d2, d3] }
  | _ => none }
def heapSnapshotsRow : OpenClaim := { program := "ytbmpoecmjmmngaa", sum := "287166d51141ee3c4b69ef8402958ee11a222825a268a0b84996c96939244ede", func := "tidewright/tidewrightlaw13.HeapSnapshots", spec := "heapSnapshots", inPlace := ["maps.clone"], unfollowed := true, recurses := true, plainKeys := false, apart := false }
def HeapSnapshotsSaid : Prop := heapSnapshotsRow.holds Try.pinned (OpenSpec.ofChange heapSnapshotsSpec)

/-- ITS FALSE NEIGHBOUR: 'it returns false'. Refute it at one input. -/
def heapSnapshotsWrong : ChangeSpec := { name := "heapSnapshots", fn := fun _ => fun
  | [d1, d2, d3] => { results := [.lit (.bool false)], args := [d1, d2, d3] }
  | _ => none }
def HeapSnapshotsWrongFalsely : Prop := heapSnapshotsRow.holds Try.pinned (OpenSpec.ofChange heapSnapshotsWrong)

/-- 'tidewrightlaw13.HeapNothing': WHATEVER THE INPUT: true; the input reads as it did. -/
def heapNothingSpec : ChangeSpec := { name := "heapNothing", fn := fun _ => fun
  | [d] => { results := [.lit (.bool true)], args := [d] }
  | _ => none }
def heapNothingRow : OpenClaim := { program := "ytbmpoecmjmmngaa", sum := "287166d51141ee3c4b69ef8402958ee11a222825a268a0b84996c96939244ede", func := "tidewright/tidewrightlaw13.HeapNothing", spec := "heapNothing", inPlace := ["maps.clone"], unfollowed := true, recurses := true, plainKeys := false, apart := false }
def HeapNothingSaid : Prop := heapNothingRow.holds Try.pinned (OpenSpec.ofChange heapNothingSpec)

/-- ITS FALSE NEIGHBOUR: 'it returns false'. Refute it at one input. -/
def heapNothingWrong : ChangeSpec := { name := "heapNothing", fn := fun _ => fun
  | [d] => { results := [.lit (.bool false)], args := [d] }
  | _ => none }
def HeapNothingWrongFalsely : Prop := heapNothingRow.holds Try.pinned (OpenSpec.ofChange heapNothingWrong)

/- THE SECOND FORM. 'bulk': how many values and letters a reading holds, each counted each time it is reached (what is shared counts as often as it is met; a slice's spare places count too). A statement '..UptoSaid' is the law's where the arguments, and the package variables that the reading takes, are together of bulk at most 1048576: NARROWER than '..Said'. Prove '..Said' where nothing that the law and all that it calls make is longer than what came in: it says more and counts as full. Else prove '..UptoSaid'. A law counts once. -/
mutual
def uptoBulk {H : Type} : DataW H → Nat
  | .lit (.string bytes) => bytes.length + 1
  | .lit _ => 1
  | .nil => 1
  | .ptr d => uptoBulk d + 1
  | .slice elems spare => uptoBulkAll elems + uptoBulkAll spare + 1
  | .agg parts => uptoBulkAll parts + 1
  | .iface _ d => uptoBulk d + 1
  | .map entries => uptoBulkEntries entries + 1
  | .held _ => 1
def uptoBulkAll {H : Type} : List (DataW H) → Nat
  | [] => 0
  | d :: r => uptoBulk d + uptoBulkAll r
def uptoBulkEntries {H : Type} : List (Lit × DataW H) → Nat
  | [] => 0
  | x :: r => uptoBulkEntry x + uptoBulkEntries r
def uptoBulkEntry {H : Type} : Lit × DataW H → Nat
  | (.string bytes, d) => bytes.length + uptoBulk d + 1
  | (_, d) => uptoBulk d + 1
 end
def uptoSmall : (H : Type) → List (DataW H) → Bool := fun _ ds => decide (uptoBulkAll ds ≤ 1048576)
def OpenSpec.upto (s : _root_.Go.ChangeSpec) : _root_.Go.OpenSpec := { _root_.Go.OpenSpec.ofChange s with cond := some uptoSmall }

/-- 'tidewrightlaw13.HeapKeeps', WHERE WHAT IT READS IS OF BULK AT MOST 1048576: true; the input reads as it did. -/
def heapKeepsUptoRow : OpenClaim := { program := "ytbmpoecmjmmngaa", sum := "287166d51141ee3c4b69ef8402958ee11a222825a268a0b84996c96939244ede", func := "tidewright/tidewrightlaw13.HeapKeeps", spec := "heapKeeps", inPlace := ["maps.clone"], unfollowed := true, recurses := true, plainKeys := false, apart := false, narrowed := true }
def HeapKeepsUptoSaid : Prop := heapKeepsUptoRow.holds Try.pinned (OpenSpec.upto heapKeepsSpec)

/-- 'tidewrightlaw13.HeapSnapshots', WHERE WHAT IT READS IS OF BULK AT MOST 1048576: true; the input reads as it did. -/
def heapSnapshotsUptoRow : OpenClaim := { program := "ytbmpoecmjmmngaa", sum := "287166d51141ee3c4b69ef8402958ee11a222825a268a0b84996c96939244ede", func := "tidewright/tidewrightlaw13.HeapSnapshots", spec := "heapSnapshots", inPlace := ["maps.clone"], unfollowed := true, recurses := true, plainKeys := false, apart := false, narrowed := true }
def HeapSnapshotsUptoSaid : Prop := heapSnapshotsUptoRow.holds Try.pinned (OpenSpec.upto heapSnapshotsSpec)

/-- 'tidewrightlaw13.HeapNothing', WHERE WHAT IT READS IS OF BULK AT MOST 1048576: true; the input reads as it did. -/
def heapNothingUptoRow : OpenClaim := { program := "ytbmpoecmjmmngaa", sum := "287166d51141ee3c4b69ef8402958ee11a222825a268a0b84996c96939244ede", func := "tidewright/tidewrightlaw13.HeapNothing", spec := "heapNothing", inPlace := ["maps.clone"], unfollowed := true, recurses := true, plainKeys := false, apart := false, narrowed := true }
def HeapNothingUptoSaid : Prop := heapNothingUptoRow.holds Try.pinned (OpenSpec.upto heapNothingSpec)

end Rows
end Go.Proofs.Ytbmpoecmjmmngaa
