/-
  No cell of these rows narrows 'for every input' (looked for: loops, veiled, ifaces, maps, wideKeys, modest, calm, conditions, laid).
  DERIVED. THE GIVEN ROWS OF THIS SEAT. 4 by the template 'for every input the law returns true; each argument reads behind the call as it read before'; 0 by the template 'total and deterministic' (their statements: YtafeaeaildfohaaTotals.lean).
  GIVEN WITH THE SEED: the statements are not yours to turn. If you find one false, say at which input.
  Laid BY PROGRAM, IN A SANDBOX (cutbox-rows.mjs): the forced cells as the released guide's own fill.sh prints them over the translation 72ae84b69118364c… (all of the seat's roots in one cut). By AI agents, Wed Nov 11 2026. No macro, syntax, notation, axiom, sorry.
-/
import Derived.Test.YtafeaeaildfohaaChecked
import GoSem.Claim
import GoSem.ClaimJoined
import GoSem.ClaimMapViews
import Derived.JoinedTies
import Derived.KernelRfl
namespace Go.Proofs.Ytafeaeaildfohaa
/- THE CELL 'sum', in the pinned program and in every row, IS THE sha256 OF THE DUMP (.gsa) THAT YtafeaeaildfohaaProg.lean LOADS. Nothing in Lean hashes anything: it is a label: what it is worth is what the hold of that sum in a sandbox is worth. -/
noncomputable def Try.pinned : Pinned := { name := "ytafeaeaildfohaa", sum := "72ae84b69118364cee5866826fc729c056dac3b7273fc071d45106f78d27f9c8", checked := Try.checked }
namespace Rows
def none {H : Type} : Left H := { results := [], args := [] }

/-- 'tidewrightlaw11.RingFollows': WHATEVER THE INPUT: true; the input reads as it did. -/
def ringFollowsSpec : ChangeSpec := { name := "ringFollows", fn := fun _ => fun
  | [d1, d2] => { results := [.lit (.bool true)], args := [d1, d2] }
  | _ => none }
def ringFollowsRow : OpenClaim := { program := "ytafeaeaildfohaa", sum := "72ae84b69118364cee5866826fc729c056dac3b7273fc071d45106f78d27f9c8", func := "tidewright/tidewrightlaw11.RingFollows", spec := "ringFollows", unfollowed := true, recurses := true, plainKeys := false, apart := false }
def RingFollowsSaid : Prop := ringFollowsRow.holds Try.pinned (OpenSpec.ofChange ringFollowsSpec)

/-- ITS FALSE NEIGHBOUR: 'it returns false'. Refute it at one input. -/
def ringFollowsWrong : ChangeSpec := { name := "ringFollows", fn := fun _ => fun
  | [d1, d2] => { results := [.lit (.bool false)], args := [d1, d2] }
  | _ => none }
def RingFollowsWrongFalsely : Prop := ringFollowsRow.holds Try.pinned (OpenSpec.ofChange ringFollowsWrong)

/-- 'tidewrightlaw11.RingLeast': WHATEVER THE INPUT: true; the input reads as it did. -/
def ringLeastSpec : ChangeSpec := { name := "ringLeast", fn := fun _ => fun
  | [d1, d2] => { results := [.lit (.bool true)], args := [d1, d2] }
  | _ => none }
def ringLeastRow : OpenClaim := { program := "ytafeaeaildfohaa", sum := "72ae84b69118364cee5866826fc729c056dac3b7273fc071d45106f78d27f9c8", func := "tidewright/tidewrightlaw11.RingLeast", spec := "ringLeast", unfollowed := true, recurses := true, plainKeys := false, apart := false }
def RingLeastSaid : Prop := ringLeastRow.holds Try.pinned (OpenSpec.ofChange ringLeastSpec)

/-- ITS FALSE NEIGHBOUR: 'it returns false'. Refute it at one input. -/
def ringLeastWrong : ChangeSpec := { name := "ringLeast", fn := fun _ => fun
  | [d1, d2] => { results := [.lit (.bool false)], args := [d1, d2] }
  | _ => none }
def RingLeastWrongFalsely : Prop := ringLeastRow.holds Try.pinned (OpenSpec.ofChange ringLeastWrong)

/-- 'tidewrightlaw11.RingNeeds': WHATEVER THE INPUT: true; the input reads as it did. -/
def ringNeedsSpec : ChangeSpec := { name := "ringNeeds", fn := fun _ => fun
  | [d1, d2, d3] => { results := [.lit (.bool true)], args := [d1, d2, d3] }
  | _ => none }
def ringNeedsRow : OpenClaim := { program := "ytafeaeaildfohaa", sum := "72ae84b69118364cee5866826fc729c056dac3b7273fc071d45106f78d27f9c8", func := "tidewright/tidewrightlaw11.RingNeeds", spec := "ringNeeds", unfollowed := true, recurses := true, plainKeys := false, apart := false }
def RingNeedsSaid : Prop := ringNeedsRow.holds Try.pinned (OpenSpec.ofChange ringNeedsSpec)

/-- ITS FALSE NEIGHBOUR: 'it returns false'. Refute it at one input. -/
def ringNeedsWrong : ChangeSpec := { name := "ringNeeds", fn := fun _ => fun
  | [d1, d2, d3] => { results := [.lit (.bool false)], args := [d1, d2, d3] }
  | _ => none }
def RingNeedsWrongFalsely : Prop := ringNeedsRow.holds Try.pinned (OpenSpec.ofChange ringNeedsWrong)

/-- 'tidewrightlaw11.RingWhy': WHATEVER THE INPUT: true; the input reads as it did. -/
def ringWhySpec : ChangeSpec := { name := "ringWhy", fn := fun _ => fun
  | [d1, d2, d3] => { results := [.lit (.bool true)], args := [d1, d2, d3] }
  | _ => none }
def ringWhyRow : OpenClaim := { program := "ytafeaeaildfohaa", sum := "72ae84b69118364cee5866826fc729c056dac3b7273fc071d45106f78d27f9c8", func := "tidewright/tidewrightlaw11.RingWhy", spec := "ringWhy", unfollowed := true, recurses := true, plainKeys := false, apart := false }
def RingWhySaid : Prop := ringWhyRow.holds Try.pinned (OpenSpec.ofChange ringWhySpec)

/-- ITS FALSE NEIGHBOUR: 'it returns false'. Refute it at one input. -/
def ringWhyWrong : ChangeSpec := { name := "ringWhy", fn := fun _ => fun
  | [d1, d2, d3] => { results := [.lit (.bool false)], args := [d1, d2, d3] }
  | _ => none }
def RingWhyWrongFalsely : Prop := ringWhyRow.holds Try.pinned (OpenSpec.ofChange ringWhyWrong)

/- THE SECOND FORM. 'bulk': how many values and letters a reading holds, each counted each time it is reached (what is shared counts as often as it is met; a slice's spare places count too). A statement '..UptoSaid' is the law's where the arguments, and the package variables that the reading takes, are together of bulk at most 1048576: NARROWER than '..Said'. Prove '..Said' where nothing that the law and all that it calls make is longer than what came in: it says more and counts as full. Else prove '..UptoSaid'. A law counts once. -/
mutual
def uptoBulk {H : Type} : DataW H → Nat
  | .lit (.string bytes) => bytes.length + 1
  | .lit _ => 1
  | .nil => 1
  | .ptr d => uptoBulk d + 1
  | .slice elems spare => uptoBulkAll elems + uptoBulkAll spare + 1
  | .agg parts => uptoBulkAll parts + 1
  | .iface _ d => uptoBulk d + 1
  | .map entries => uptoBulkEntries entries + 1
  | .held _ => 1
def uptoBulkAll {H : Type} : List (DataW H) → Nat
  | [] => 0
  | d :: r => uptoBulk d + uptoBulkAll r
def uptoBulkEntries {H : Type} : List (Lit × DataW H) → Nat
  | [] => 0
  | x :: r => uptoBulkEntry x + uptoBulkEntries r
def uptoBulkEntry {H : Type} : Lit × DataW H → Nat
  | (.string bytes, d) => bytes.length + uptoBulk d + 1
  | (_, d) => uptoBulk d + 1
 end
def uptoSmall : (H : Type) → List (DataW H) → Bool := fun _ ds => decide (uptoBulkAll ds ≤ 1048576)
def OpenSpec.upto (s : _root_.Go.ChangeSpec) : _root_.Go.OpenSpec := { _root_.Go.OpenSpec.ofChange s with cond := some uptoSmall }

/-- 'tidewrightlaw11.RingFollows', WHERE WHAT IT READS IS OF BULK AT MOST 1048576: true; the input reads as it did. -/
def ringFollowsUptoRow : OpenClaim := { program := "ytafeaeaildfohaa", sum := "72ae84b69118364cee5866826fc729c056dac3b7273fc071d45106f78d27f9c8", func := "tidewright/tidewrightlaw11.RingFollows", spec := "ringFollows", unfollowed := true, recurses := true, plainKeys := false, apart := false, narrowed := true }
def RingFollowsUptoSaid : Prop := ringFollowsUptoRow.holds Try.pinned (OpenSpec.upto ringFollowsSpec)

/-- 'tidewrightlaw11.RingLeast', WHERE WHAT IT READS IS OF BULK AT MOST 1048576: true; the input reads as it did. -/
def ringLeastUptoRow : OpenClaim := { program := "ytafeaeaildfohaa", sum := "72ae84b69118364cee5866826fc729c056dac3b7273fc071d45106f78d27f9c8", func := "tidewright/tidewrightlaw11.RingLeast", spec := "ringLeast", unfollowed := true, recurses := true, plainKeys := false, apart := false, narrowed := true }
def RingLeastUptoSaid : Prop := ringLeastUptoRow.holds Try.pinned (OpenSpec.upto ringLeastSpec)

/-- 'tidewrightlaw11.RingNeeds', WHERE WHAT IT READS IS OF BULK AT MOST 1048576: true; the input reads as it did. -/
def ringNeedsUptoRow : OpenClaim := { program := "ytafeaeaildfohaa", sum := "72ae84b69118364cee5866826fc729c056dac3b7273fc071d45106f78d27f9c8", func := "tidewright/tidewrightlaw11.RingNeeds", spec := "ringNeeds", unfollowed := true, recurses := true, plainKeys := false, apart := false, narrowed := true }
def RingNeedsUptoSaid : Prop := ringNeedsUptoRow.holds Try.pinned (OpenSpec.upto ringNeedsSpec)

/-- 'tidewrightlaw11.RingWhy', WHERE WHAT IT READS IS OF BULK AT MOST 1048576: true; the input reads as it did. -/
def ringWhyUptoRow : OpenClaim := { program := "ytafeaeaildfohaa", sum := "72ae84b69118364cee5866826fc729c056dac3b7273fc071d45106f78d27f9c8", func := "tidewright/tidewrightlaw11.RingWhy", spec := "ringWhy", unfollowed := true, recurses := true, plainKeys := false, apart := false, narrowed := true }
def RingWhyUptoSaid : Prop := ringWhyUptoRow.holds Try.pinned (OpenSpec.upto ringWhySpec)

end Rows
end Go.Proofs.Ytafeaeaildfohaa
