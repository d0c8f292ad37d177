/-
  No cell of these rows narrows 'for every input' (looked for: loops, veiled, ifaces, maps, wideKeys, modest, calm, conditions, laid).
  DERIVED. THE GIVEN ROWS OF THIS SEAT. 7 by the template 'for every input the law returns true; each argument reads behind the call as it read before'; 0 by the template 'total and deterministic' (their statements: YtfkphdmnelchmaaTotals.lean).
  GIVEN WITH THE SEED: the statements are not yours to turn. If you find one false, say at which input.
  Laid BY PROGRAM, IN A SANDBOX (cutbox-rows.mjs): the forced cells as the released guide's own fill.sh prints them over the translation 7635aab17b1c3a49… (all of the seat's roots in one cut). By AI agents, Wed Nov 11 2026. No macro, syntax, notation, axiom, sorry.
-/
import Derived.Test.YtfkphdmnelchmaaChecked
import GoSem.Claim
import GoSem.ClaimJoined
import GoSem.ClaimMapViews
import Derived.JoinedTies
import Derived.KernelRfl
namespace Go.Proofs.Ytfkphdmnelchmaa
/- THE CELL 'sum', in the pinned program and in every row, IS THE sha256 OF THE DUMP (.gsa) THAT YtfkphdmnelchmaaProg.lean LOADS. Nothing in Lean hashes anything: it is a label: what it is worth is what the hold of that sum in a sandbox is worth. -/
noncomputable def Try.pinned : Pinned := { name := "ytfkphdmnelchmaa", sum := "7635aab17b1c3a490a156e451fe4bed91e10d225236eae2ccb2fe24e2c1ec80e", checked := Try.checked }
namespace Rows
def none {H : Type} : Left H := { results := [], args := [] }

/-- 'tidewrightlaw20.WireBacks': WHATEVER THE INPUT: true; the input reads as it did. -/
def wireBacksSpec : ChangeSpec := { name := "wireBacks", fn := fun _ => fun
  | [d1, d2, d3] => { results := [.lit (.bool true)], args := [d1, d2, d3] }
  | _ => none }
def wireBacksRow : OpenClaim := { program := "ytfkphdmnelchmaa", sum := "7635aab17b1c3a490a156e451fe4bed91e10d225236eae2ccb2fe24e2c1ec80e", func := "tidewright/tidewrightlaw20.WireBacks", spec := "wireBacks", unfollowed := true, recurses := true, apart := false }
def WireBacksSaid : Prop := wireBacksRow.holds Try.pinned (OpenSpec.ofChange wireBacksSpec)

/-- ITS FALSE NEIGHBOUR: 'it returns false'. Refute it at one input. -/
def wireBacksWrong : ChangeSpec := { name := "wireBacks", fn := fun _ => fun
  | [d1, d2, d3] => { results := [.lit (.bool false)], args := [d1, d2, d3] }
  | _ => none }
def WireBacksWrongFalsely : Prop := wireBacksRow.holds Try.pinned (OpenSpec.ofChange wireBacksWrong)

/-- 'tidewrightlaw20.WireOrders': WHATEVER THE INPUT: true; the input reads as it did. -/
def wireOrdersSpec : ChangeSpec := { name := "wireOrders", fn := fun _ => fun
  | [d1, d2, d3, d4] => { results := [.lit (.bool true)], args := [d1, d2, d3, d4] }
  | _ => none }
def wireOrdersRow : OpenClaim := { program := "ytfkphdmnelchmaa", sum := "7635aab17b1c3a490a156e451fe4bed91e10d225236eae2ccb2fe24e2c1ec80e", func := "tidewright/tidewrightlaw20.WireOrders", spec := "wireOrders", unfollowed := true, recurses := true, apart := false }
def WireOrdersSaid : Prop := wireOrdersRow.holds Try.pinned (OpenSpec.ofChange wireOrdersSpec)

/-- ITS FALSE NEIGHBOUR: 'it returns false'. Refute it at one input. -/
def wireOrdersWrong : ChangeSpec := { name := "wireOrders", fn := fun _ => fun
  | [d1, d2, d3, d4] => { results := [.lit (.bool false)], args := [d1, d2, d3, d4] }
  | _ => none }
def WireOrdersWrongFalsely : Prop := wireOrdersRow.holds Try.pinned (OpenSpec.ofChange wireOrdersWrong)

/-- 'tidewrightlaw20.WireOvertakes': WHATEVER THE INPUT: true; the input reads as it did. -/
def wireOvertakesSpec : ChangeSpec := { name := "wireOvertakes", fn := fun _ => fun
  | [d1, d2, d3, d4, d5] => { results := [.lit (.bool true)], args := [d1, d2, d3, d4, d5] }
  | _ => none }
def wireOvertakesRow : OpenClaim := { program := "ytfkphdmnelchmaa", sum := "7635aab17b1c3a490a156e451fe4bed91e10d225236eae2ccb2fe24e2c1ec80e", func := "tidewright/tidewrightlaw20.WireOvertakes", spec := "wireOvertakes", inPlace := ["maps.clone"], unfollowed := true, recurses := true, apart := false }
def WireOvertakesSaid : Prop := wireOvertakesRow.holds Try.pinned (OpenSpec.ofChange wireOvertakesSpec)

/-- ITS FALSE NEIGHBOUR: 'it returns false'. Refute it at one input. -/
def wireOvertakesWrong : ChangeSpec := { name := "wireOvertakes", fn := fun _ => fun
  | [d1, d2, d3, d4, d5] => { results := [.lit (.bool false)], args := [d1, d2, d3, d4, d5] }
  | _ => none }
def WireOvertakesWrongFalsely : Prop := wireOvertakesRow.holds Try.pinned (OpenSpec.ofChange wireOvertakesWrong)

/-- 'tidewrightlaw20.WireCredits': WHATEVER THE INPUT: true; the input reads as it did. -/
def wireCreditsSpec : ChangeSpec := { name := "wireCredits", fn := fun _ => fun
  | [d1, d2, d3, d4] => { results := [.lit (.bool true)], args := [d1, d2, d3, d4] }
  | _ => none }
def wireCreditsRow : OpenClaim := { program := "ytfkphdmnelchmaa", sum := "7635aab17b1c3a490a156e451fe4bed91e10d225236eae2ccb2fe24e2c1ec80e", func := "tidewright/tidewrightlaw20.WireCredits", spec := "wireCredits", inPlace := ["maps.clone"], unfollowed := true, recurses := true, apart := false }
def WireCreditsSaid : Prop := wireCreditsRow.holds Try.pinned (OpenSpec.ofChange wireCreditsSpec)

/-- ITS FALSE NEIGHBOUR: 'it returns false'. Refute it at one input. -/
def wireCreditsWrong : ChangeSpec := { name := "wireCredits", fn := fun _ => fun
  | [d1, d2, d3, d4] => { results := [.lit (.bool false)], args := [d1, d2, d3, d4] }
  | _ => none }
def WireCreditsWrongFalsely : Prop := wireCreditsRow.holds Try.pinned (OpenSpec.ofChange wireCreditsWrong)

/-- 'tidewrightlaw20.WireRuns': WHATEVER THE INPUT: true; the input reads as it did. -/
def wireRunsSpec : ChangeSpec := { name := "wireRuns", fn := fun _ => fun
  | [d1, d2, d3, d4] => { results := [.lit (.bool true)], args := [d1, d2, d3, d4] }
  | _ => none }
def wireRunsRow : OpenClaim := { program := "ytfkphdmnelchmaa", sum := "7635aab17b1c3a490a156e451fe4bed91e10d225236eae2ccb2fe24e2c1ec80e", func := "tidewright/tidewrightlaw20.WireRuns", spec := "wireRuns", inPlace := ["maps.clone"], unfollowed := true, recurses := true, apart := false }
def WireRunsSaid : Prop := wireRunsRow.holds Try.pinned (OpenSpec.ofChange wireRunsSpec)

/-- ITS FALSE NEIGHBOUR: 'it returns false'. Refute it at one input. -/
def wireRunsWrong : ChangeSpec := { name := "wireRuns", fn := fun _ => fun
  | [d1, d2, d3, d4] => { results := [.lit (.bool false)], args := [d1, d2, d3, d4] }
  | _ => none }
def WireRunsWrongFalsely : Prop := wireRunsRow.holds Try.pinned (OpenSpec.ofChange wireRunsWrong)

/-- 'tidewrightlaw20.WireNothing': WHATEVER THE INPUT: true; the input reads as it did. -/
def wireNothingSpec : ChangeSpec := { name := "wireNothing", fn := fun _ => fun
  | [d] => { results := [.lit (.bool true)], args := [d] }
  | _ => none }
def wireNothingRow : OpenClaim := { program := "ytfkphdmnelchmaa", sum := "7635aab17b1c3a490a156e451fe4bed91e10d225236eae2ccb2fe24e2c1ec80e", func := "tidewright/tidewrightlaw20.WireNothing", spec := "wireNothing", inPlace := ["maps.clone"], unfollowed := true, recurses := true, apart := false }
def WireNothingSaid : Prop := wireNothingRow.holds Try.pinned (OpenSpec.ofChange wireNothingSpec)

/-- ITS FALSE NEIGHBOUR: 'it returns false'. Refute it at one input. -/
def wireNothingWrong : ChangeSpec := { name := "wireNothing", fn := fun _ => fun
  | [d] => { results := [.lit (.bool false)], args := [d] }
  | _ => none }
def WireNothingWrongFalsely : Prop := wireNothingRow.holds Try.pinned (OpenSpec.ofChange wireNothingWrong)

/-- 'tidewrightlaw20.WireContents': WHATEVER THE INPUT: true; the input reads as it did. -/
def wireContentsSpec : ChangeSpec := { name := "wireContents", fn := fun _ => fun
  | [d1, d2, d3, d4, d5, d6, d7, d8] => { results := [.lit (.bool true)], args := [d1, d2, d3, d4, d5, d6, d7, d8] }
  | _ => none }
def wireContentsRow : OpenClaim := { program := "ytfkphdmnelchmaa", sum := "7635aab17b1c3a490a156e451fe4bed91e10d225236eae2ccb2fe24e2c1ec80e", func := "tidewright/tidewrightlaw20.WireContents", spec := "wireContents", inPlace := ["maps.clone"], unfollowed := true, recurses := true, apart := false }
def WireContentsSaid : Prop := wireContentsRow.holds Try.pinned (OpenSpec.ofChange wireContentsSpec)

/-- ITS FALSE NEIGHBOUR: 'it returns false'. Refute it at one input. -/
def wireContentsWrong : ChangeSpec := { name := "wireContents", fn := fun _ => fun
  | [d1, d2, d3, d4, d5, d6, d7, d8] => { results := [.lit (.bool false)], args := [d1, d2, d3, d4, d5, d6, d7, d8] }
  | _ => none }
def WireContentsWrongFalsely : Prop := wireContentsRow.holds Try.pinned (OpenSpec.ofChange wireContentsWrong)

/- THE SECOND FORM. 'bulk': how many values and letters a reading holds, each counted each time it is reached (what is shared counts as often as it is met; a slice's spare places count too). A statement '..UptoSaid' is the law's where the arguments, and the package variables that the reading takes, are together of bulk at most 1048576: NARROWER than '..Said'. Prove '..Said' where nothing that the law and all that it calls make is longer than what came in: it says more and counts as full. Else prove '..UptoSaid'. A law counts once. -/
mutual
def uptoBulk {H : Type} : DataW H → Nat
  | .lit (.string bytes) => bytes.length + 1
  | .lit _ => 1
  | .nil => 1
  | .ptr d => uptoBulk d + 1
  | .slice elems spare => uptoBulkAll elems + uptoBulkAll spare + 1
  | .agg parts => uptoBulkAll parts + 1
  | .iface _ d => uptoBulk d + 1
  | .map entries => uptoBulkEntries entries + 1
  | .held _ => 1
def uptoBulkAll {H : Type} : List (DataW H) → Nat
  | [] => 0
  | d :: r => uptoBulk d + uptoBulkAll r
def uptoBulkEntries {H : Type} : List (Lit × DataW H) → Nat
  | [] => 0
  | x :: r => uptoBulkEntry x + uptoBulkEntries r
def uptoBulkEntry {H : Type} : Lit × DataW H → Nat
  | (.string bytes, d) => bytes.length + uptoBulk d + 1
  | (_, d) => uptoBulk d + 1
 end
def uptoSmall : (H : Type) → List (DataW H) → Bool := fun _ ds => decide (uptoBulkAll ds ≤ 1048576)
def OpenSpec.upto (s : _root_.Go.ChangeSpec) : _root_.Go.OpenSpec := { _root_.Go.OpenSpec.ofChange s with cond := some uptoSmall }

/-- 'tidewrightlaw20.WireBacks', WHERE WHAT IT READS IS OF BULK AT MOST 1048576: true; the input reads as it did. -/
def wireBacksUptoRow : OpenClaim := { program := "ytfkphdmnelchmaa", sum := "7635aab17b1c3a490a156e451fe4bed91e10d225236eae2ccb2fe24e2c1ec80e", func := "tidewright/tidewrightlaw20.WireBacks", spec := "wireBacks", unfollowed := true, recurses := true, apart := false, narrowed := true }
def WireBacksUptoSaid : Prop := wireBacksUptoRow.holds Try.pinned (OpenSpec.upto wireBacksSpec)

/-- 'tidewrightlaw20.WireOrders', WHERE WHAT IT READS IS OF BULK AT MOST 1048576: true; the input reads as it did. -/
def wireOrdersUptoRow : OpenClaim := { program := "ytfkphdmnelchmaa", sum := "7635aab17b1c3a490a156e451fe4bed91e10d225236eae2ccb2fe24e2c1ec80e", func := "tidewright/tidewrightlaw20.WireOrders", spec := "wireOrders", unfollowed := true, recurses := true, apart := false, narrowed := true }
def WireOrdersUptoSaid : Prop := wireOrdersUptoRow.holds Try.pinned (OpenSpec.upto wireOrdersSpec)

/-- 'tidewrightlaw20.WireOvertakes', WHERE WHAT IT READS IS OF BULK AT MOST 1048576: true; the input reads as it did. -/
def wireOvertakesUptoRow : OpenClaim := { program := "ytfkphdmnelchmaa", sum := "7635aab17b1c3a490a156e451fe4bed91e10d225236eae2ccb2fe24e2c1ec80e", func := "tidewright/tidewrightlaw20.WireOvertakes", spec := "wireOvertakes", inPlace := ["maps.clone"], unfollowed := true, recurses := true, apart := false, narrowed := true }
def WireOvertakesUptoSaid : Prop := wireOvertakesUptoRow.holds Try.pinned (OpenSpec.upto wireOvertakesSpec)

/-- 'tidewrightlaw20.WireCredits', WHERE WHAT IT READS IS OF BULK AT MOST 1048576: true; the input reads as it did. -/
def wireCreditsUptoRow : OpenClaim := { program := "ytfkphdmnelchmaa", sum := "7635aab17b1c3a490a156e451fe4bed91e10d225236eae2ccb2fe24e2c1ec80e", func := "tidewright/tidewrightlaw20.WireCredits", spec := "wireCredits", inPlace := ["maps.clone"], unfollowed := true, recurses := true, apart := false, narrowed := true }
def WireCreditsUptoSaid : Prop := wireCreditsUptoRow.holds Try.pinned (OpenSpec.upto wireCreditsSpec)

/-- 'tidewrightlaw20.WireRuns', WHERE WHAT IT READS IS OF BULK AT MOST 1048576: true; the input reads as it did. -/
def wireRunsUptoRow : OpenClaim := { program := "ytfkphdmnelchmaa", sum := "7635aab17b1c3a490a156e451fe4bed91e10d225236eae2ccb2fe24e2c1ec80e", func := "tidewright/tidewrightlaw20.WireRuns", spec := "wireRuns", inPlace := ["maps.clone"], unfollowed := true, recurses := true, apart := false, narrowed := true }
def WireRunsUptoSaid : Prop := wireRunsUptoRow.holds Try.pinned (OpenSpec.upto wireRunsSpec)

/-- 'tidewrightlaw20.WireNothing', WHERE WHAT IT READS IS OF BULK AT MOST 1048576: true; the input reads as it did. -/
def wireNothingUptoRow : OpenClaim := { program := "ytfkphdmnelchmaa", sum := "7635aab17b1c3a490a156e451fe4bed91e10d225236eae2ccb2fe24e2c1ec80e", func := "tidewright/tidewrightlaw20.WireNothing", spec := "wireNothing", inPlace := ["maps.clone"], unfollowed := true, recurses := true, apart := false, narrowed := true }
def WireNothingUptoSaid : Prop := wireNothingUptoRow.holds Try.pinned (OpenSpec.upto wireNothingSpec)

/-- 'tidewrightlaw20.WireContents', WHERE WHAT IT READS IS OF BULK AT MOST 1048576: true; the input reads as it did. -/
def wireContentsUptoRow : OpenClaim := { program := "ytfkphdmnelchmaa", sum := "7635aab17b1c3a490a156e451fe4bed91e10d225236eae2ccb2fe24e2c1ec80e", func := "tidewright/tidewrightlaw20.WireContents", spec := "wireContents", inPlace := ["maps.clone"], unfollowed := true, recurses := true, apart := false, narrowed := true }
def WireContentsUptoSaid : Prop := wireContentsUptoRow.holds Try.pinned (OpenSpec.upto wireContentsSpec)

end Rows
end Go.Proofs.Ytfkphdmnelchmaa
