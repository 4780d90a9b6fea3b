/-
  No cell of these rows narrows 'for every input' (looked for: loops, veiled, ifaces, maps, wideKeys, modest, calm, conditions, laid).
  DERIVED. THE GIVEN ROWS OF THIS SEAT. 12 by the template 'for every input the law returns true; each argument reads behind the call as it read before'; 0 by the template 'total and deterministic' (their statements: YtondcelapmbphaaTotals.lean).
  GIVEN WITH THE SEED: the statements are not yours to turn. If you find one false, say at which input.
  Laid BY PROGRAM, IN A SANDBOX (cutbox-rows.mjs): the forced cells as the released guide's own fill.sh prints them over the translation 68d4e09c24e44785… (all of the seat's roots in one cut). By AI agents, Wed Nov 11 2026. No macro, syntax, notation, axiom, sorry.
-/
import Derived.Test.YtondcelapmbphaaChecked
import GoSem.Claim
import GoSem.ClaimJoined
import GoSem.ClaimMapViews
import Derived.JoinedTies
import Derived.KernelRfl
namespace Go.Proofs.Ytondcelapmbphaa
/- THE CELL 'sum', in the pinned program and in every row, IS THE sha256 OF THE DUMP (.gsa) THAT YtondcelapmbphaaProg.lean LOADS. Nothing in Lean hashes anything: it is a label: what it is worth is what the hold of that sum in a sandbox is worth. -/
noncomputable def Try.pinned : Pinned := { name := "ytondcelapmbphaa", sum := "68d4e09c24e447854523ac51f0e57740762cb5c01def0460ad3753f101d7bc7c", checked := Try.checked }
namespace Rows
def none {H : Type} : Left H := { results := [], args := [] }

/-- 'neaptidelaw02.TagNames': WHATEVER THE INPUT: true; the input reads as it did. -/
def tagNamesSpec : ChangeSpec := { name := "tagNames", fn := fun _ => fun
  | [] => { results := [.lit (.bool true)], args := [] }
  | _ => none }
def tagNamesRow : OpenClaim := { program := "ytondcelapmbphaa", sum := "68d4e09c24e447854523ac51f0e57740762cb5c01def0460ad3753f101d7bc7c", func := "neaptide/neaptidelaw02.TagNames", spec := "tagNames", apart := false }
def TagNamesSaid : Prop := tagNamesRow.holds Try.pinned (OpenSpec.ofChange tagNamesSpec)

/-- ITS FALSE NEIGHBOUR: 'it returns false'. Refute it at one input. -/
def tagNamesWrong : ChangeSpec := { name := "tagNames", fn := fun _ => fun
  | [] => { results := [.lit (.bool false)], args := [] }
  | _ => none }
def TagNamesWrongFalsely : Prop := tagNamesRow.holds Try.pinned (OpenSpec.ofChange tagNamesWrong)

/-- 'neaptidelaw02.TagKeys': WHATEVER THE INPUT: true; the input reads as it did. -/
def tagKeysSpec : ChangeSpec := { name := "tagKeys", fn := fun _ => fun
  | [d] => { results := [.lit (.bool true)], args := [d] }
  | _ => none }
def tagKeysRow : OpenClaim := { program := "ytondcelapmbphaa", sum := "68d4e09c24e447854523ac51f0e57740762cb5c01def0460ad3753f101d7bc7c", func := "neaptide/neaptidelaw02.TagKeys", spec := "tagKeys", apart := false }
def TagKeysSaid : Prop := tagKeysRow.holds Try.pinned (OpenSpec.ofChange tagKeysSpec)

/-- ITS FALSE NEIGHBOUR: 'it returns false'. Refute it at one input. -/
def tagKeysWrong : ChangeSpec := { name := "tagKeys", fn := fun _ => fun
  | [d] => { results := [.lit (.bool false)], args := [d] }
  | _ => none }
def TagKeysWrongFalsely : Prop := tagKeysRow.holds Try.pinned (OpenSpec.ofChange tagKeysWrong)

/-- 'neaptidelaw02.TagMarks': WHATEVER THE INPUT: true; the input reads as it did. -/
def tagMarksSpec : ChangeSpec := { name := "tagMarks", fn := fun _ => fun
  | [d1, d2, d3] => { results := [.lit (.bool true)], args := [d1, d2, d3] }
  | _ => none }
def tagMarksRow : OpenClaim := { program := "ytondcelapmbphaa", sum := "68d4e09c24e447854523ac51f0e57740762cb5c01def0460ad3753f101d7bc7c", func := "neaptide/neaptidelaw02.TagMarks", spec := "tagMarks", apart := false }
def TagMarksSaid : Prop := tagMarksRow.holds Try.pinned (OpenSpec.ofChange tagMarksSpec)

/-- ITS FALSE NEIGHBOUR: 'it returns false'. Refute it at one input. -/
def tagMarksWrong : ChangeSpec := { name := "tagMarks", fn := fun _ => fun
  | [d1, d2, d3] => { results := [.lit (.bool false)], args := [d1, d2, d3] }
  | _ => none }
def TagMarksWrongFalsely : Prop := tagMarksRow.holds Try.pinned (OpenSpec.ofChange tagMarksWrong)

/-- 'neaptidelaw02.TagParts': WHATEVER THE INPUT: true; the input reads as it did. -/
def tagPartsSpec : ChangeSpec := { name := "tagParts", fn := fun _ => fun
  | [d1, d2] => { results := [.lit (.bool true)], args := [d1, d2] }
  | _ => none }
def tagPartsRow : OpenClaim := { program := "ytondcelapmbphaa", sum := "68d4e09c24e447854523ac51f0e57740762cb5c01def0460ad3753f101d7bc7c", func := "neaptide/neaptidelaw02.TagParts", spec := "tagParts", apart := false }
def TagPartsSaid : Prop := tagPartsRow.holds Try.pinned (OpenSpec.ofChange tagPartsSpec)

/-- ITS FALSE NEIGHBOUR: 'it returns false'. Refute it at one input. -/
def tagPartsWrong : ChangeSpec := { name := "tagParts", fn := fun _ => fun
  | [d1, d2] => { results := [.lit (.bool false)], args := [d1, d2] }
  | _ => none }
def TagPartsWrongFalsely : Prop := tagPartsRow.holds Try.pinned (OpenSpec.ofChange tagPartsWrong)

/-- 'neaptidelaw02.TagTurns': WHATEVER THE INPUT: true; the input reads as it did. -/
def tagTurnsSpec : ChangeSpec := { name := "tagTurns", fn := fun _ => fun
  | [d1, d2, d3] => { results := [.lit (.bool true)], args := [d1, d2, d3] }
  | _ => none }
def tagTurnsRow : OpenClaim := { program := "ytondcelapmbphaa", sum := "68d4e09c24e447854523ac51f0e57740762cb5c01def0460ad3753f101d7bc7c", func := "neaptide/neaptidelaw02.TagTurns", spec := "tagTurns", apart := false }
def TagTurnsSaid : Prop := tagTurnsRow.holds Try.pinned (OpenSpec.ofChange tagTurnsSpec)

/-- ITS FALSE NEIGHBOUR: 'it returns false'. Refute it at one input. -/
def tagTurnsWrong : ChangeSpec := { name := "tagTurns", fn := fun _ => fun
  | [d1, d2, d3] => { results := [.lit (.bool false)], args := [d1, d2, d3] }
  | _ => none }
def TagTurnsWrongFalsely : Prop := tagTurnsRow.holds Try.pinned (OpenSpec.ofChange tagTurnsWrong)

/-- 'neaptidelaw02.TagSteps': WHATEVER THE INPUT: true; the input reads as it did. -/
def tagStepsSpec : ChangeSpec := { name := "tagSteps", fn := fun _ => fun
  | [d1, d2, d3] => { results := [.lit (.bool true)], args := [d1, d2, d3] }
  | _ => none }
def tagStepsRow : OpenClaim := { program := "ytondcelapmbphaa", sum := "68d4e09c24e447854523ac51f0e57740762cb5c01def0460ad3753f101d7bc7c", func := "neaptide/neaptidelaw02.TagSteps", spec := "tagSteps", apart := false }
def TagStepsSaid : Prop := tagStepsRow.holds Try.pinned (OpenSpec.ofChange tagStepsSpec)

/-- ITS FALSE NEIGHBOUR: 'it returns false'. Refute it at one input. -/
def tagStepsWrong : ChangeSpec := { name := "tagSteps", fn := fun _ => fun
  | [d1, d2, d3] => { results := [.lit (.bool false)], args := [d1, d2, d3] }
  | _ => none }
def TagStepsWrongFalsely : Prop := tagStepsRow.holds Try.pinned (OpenSpec.ofChange tagStepsWrong)

/-- 'neaptidelaw14.ViewNames': WHATEVER THE INPUT: true; the input reads as it did. -/
def viewNamesSpec : ChangeSpec := { name := "viewNames", fn := fun _ => fun
  | [] => { results := [.lit (.bool true)], args := [] }
  | _ => none }
def viewNamesRow : OpenClaim := { program := "ytondcelapmbphaa", sum := "68d4e09c24e447854523ac51f0e57740762cb5c01def0460ad3753f101d7bc7c", func := "neaptide/neaptidelaw14.ViewNames", spec := "viewNames", apart := false }
def ViewNamesSaid : Prop := viewNamesRow.holds Try.pinned (OpenSpec.ofChange viewNamesSpec)

/-- ITS FALSE NEIGHBOUR: 'it returns false'. Refute it at one input. -/
def viewNamesWrong : ChangeSpec := { name := "viewNames", fn := fun _ => fun
  | [] => { results := [.lit (.bool false)], args := [] }
  | _ => none }
def ViewNamesWrongFalsely : Prop := viewNamesRow.holds Try.pinned (OpenSpec.ofChange viewNamesWrong)

/-- 'neaptidelaw14.ViewTurns': WHATEVER THE INPUT: true; the input reads as it did. -/
def viewTurnsSpec : ChangeSpec := { name := "viewTurns", fn := fun _ => fun
  | [d1, d2, d3] => { results := [.lit (.bool true)], args := [d1, d2, d3] }
  | _ => none }
def viewTurnsRow : OpenClaim := { program := "ytondcelapmbphaa", sum := "68d4e09c24e447854523ac51f0e57740762cb5c01def0460ad3753f101d7bc7c", func := "neaptide/neaptidelaw14.ViewTurns", spec := "viewTurns", apart := false }
def ViewTurnsSaid : Prop := viewTurnsRow.holds Try.pinned (OpenSpec.ofChange viewTurnsSpec)

/-- ITS FALSE NEIGHBOUR: 'it returns false'. Refute it at one input. -/
def viewTurnsWrong : ChangeSpec := { name := "viewTurns", fn := fun _ => fun
  | [d1, d2, d3] => { results := [.lit (.bool false)], args := [d1, d2, d3] }
  | _ => none }
def ViewTurnsWrongFalsely : Prop := viewTurnsRow.holds Try.pinned (OpenSpec.ofChange viewTurnsWrong)

/-- 'neaptidelaw14.ViewFair': WHATEVER THE INPUT: true; the input reads as it did. -/
def viewFairSpec : ChangeSpec := { name := "viewFair", fn := fun _ => fun
  | [d1, d2, d3] => { results := [.lit (.bool true)], args := [d1, d2, d3] }
  | _ => none }
def viewFairRow : OpenClaim := { program := "ytondcelapmbphaa", sum := "68d4e09c24e447854523ac51f0e57740762cb5c01def0460ad3753f101d7bc7c", func := "neaptide/neaptidelaw14.ViewFair", spec := "viewFair", apart := false }
def ViewFairSaid : Prop := viewFairRow.holds Try.pinned (OpenSpec.ofChange viewFairSpec)

/-- ITS FALSE NEIGHBOUR: 'it returns false'. Refute it at one input. -/
def viewFairWrong : ChangeSpec := { name := "viewFair", fn := fun _ => fun
  | [d1, d2, d3] => { results := [.lit (.bool false)], args := [d1, d2, d3] }
  | _ => none }
def ViewFairWrongFalsely : Prop := viewFairRow.holds Try.pinned (OpenSpec.ofChange viewFairWrong)

/-- 'neaptidelaw14.ViewTicks': WHATEVER THE INPUT: true; the input reads as it did. -/
def viewTicksSpec : ChangeSpec := { name := "viewTicks", fn := fun _ => fun
  | [d] => { results := [.lit (.bool true)], args := [d] }
  | _ => none }
def viewTicksRow : OpenClaim := { program := "ytondcelapmbphaa", sum := "68d4e09c24e447854523ac51f0e57740762cb5c01def0460ad3753f101d7bc7c", func := "neaptide/neaptidelaw14.ViewTicks", spec := "viewTicks", apart := false }
def ViewTicksSaid : Prop := viewTicksRow.holds Try.pinned (OpenSpec.ofChange viewTicksSpec)

/-- ITS FALSE NEIGHBOUR: 'it returns false'. Refute it at one input. -/
def viewTicksWrong : ChangeSpec := { name := "viewTicks", fn := fun _ => fun
  | [d] => { results := [.lit (.bool false)], args := [d] }
  | _ => none }
def ViewTicksWrongFalsely : Prop := viewTicksRow.holds Try.pinned (OpenSpec.ofChange viewTicksWrong)

/-- 'neaptidelaw14.ViewWaits': WHATEVER THE INPUT: true; the input reads as it did. -/
def viewWaitsSpec : ChangeSpec := { name := "viewWaits", fn := fun _ => fun
  | [d1, d2, d3] => { results := [.lit (.bool true)], args := [d1, d2, d3] }
  | _ => none }
def viewWaitsRow : OpenClaim := { program := "ytondcelapmbphaa", sum := "68d4e09c24e447854523ac51f0e57740762cb5c01def0460ad3753f101d7bc7c", func := "neaptide/neaptidelaw14.ViewWaits", spec := "viewWaits", apart := false }
def ViewWaitsSaid : Prop := viewWaitsRow.holds Try.pinned (OpenSpec.ofChange viewWaitsSpec)

/-- ITS FALSE NEIGHBOUR: 'it returns false'. Refute it at one input. -/
def viewWaitsWrong : ChangeSpec := { name := "viewWaits", fn := fun _ => fun
  | [d1, d2, d3] => { results := [.lit (.bool false)], args := [d1, d2, d3] }
  | _ => none }
def ViewWaitsWrongFalsely : Prop := viewWaitsRow.holds Try.pinned (OpenSpec.ofChange viewWaitsWrong)

/-- 'neaptidelaw14.ViewOver': WHATEVER THE INPUT: true; the input reads as it did. -/
def viewOverSpec : ChangeSpec := { name := "viewOver", fn := fun _ => fun
  | [d1, d2, d3] => { results := [.lit (.bool true)], args := [d1, d2, d3] }
  | _ => none }
def viewOverRow : OpenClaim := { program := "ytondcelapmbphaa", sum := "68d4e09c24e447854523ac51f0e57740762cb5c01def0460ad3753f101d7bc7c", func := "neaptide/neaptidelaw14.ViewOver", spec := "viewOver", apart := false }
def ViewOverSaid : Prop := viewOverRow.holds Try.pinned (OpenSpec.ofChange viewOverSpec)

/-- ITS FALSE NEIGHBOUR: 'it returns false'. Refute it at one input. -/
def viewOverWrong : ChangeSpec := { name := "viewOver", fn := fun _ => fun
  | [d1, d2, d3] => { results := [.lit (.bool false)], args := [d1, d2, d3] }
  | _ => none }
def ViewOverWrongFalsely : Prop := viewOverRow.holds Try.pinned (OpenSpec.ofChange viewOverWrong)

/- THE SECOND FORM. 'bulk': how many values and letters a reading holds, each counted each time it is reached (what is shared counts as often as it is met; a slice's spare places count too). A statement '..UptoSaid' is the law's where the arguments, and the package variables that the reading takes, are together of bulk at most 1048576: NARROWER than '..Said'. Prove '..Said' where nothing that the law and all that it calls make is longer than what came in: it says more and counts as full. Else prove '..UptoSaid'. A law counts once. -/
mutual
def uptoBulk {H : Type} : DataW H → Nat
  | .lit (.string bytes) => bytes.length + 1
  | .lit _ => 1
  | .nil => 1
  | .ptr d => uptoBulk d + 1
  | .slice elems spare => uptoBulkAll elems + uptoBulkAll spare + 1
  | .agg parts => uptoBulkAll parts + 1
  | .iface _ d => uptoBulk d + 1
  | .map entries => uptoBulkEntries entries + 1
  | .held _ => 1
def uptoBulkAll {H : Type} : List (DataW H) → Nat
  | [] => 0
  | d :: r => uptoBulk d + uptoBulkAll r
def uptoBulkEntries {H : Type} : List (Lit × DataW H) → Nat
  | [] => 0
  | x :: r => uptoBulkEntry x + uptoBulkEntries r
def uptoBulkEntry {H : Type} : Lit × DataW H → Nat
  | (.string bytes, d) => bytes.length + uptoBulk d + 1
  | (_, d) => uptoBulk d + 1
 end
def uptoSmall : (H : Type) → List (DataW H) → Bool := fun _ ds => decide (uptoBulkAll ds ≤ 1048576)
def OpenSpec.upto (s : _root_.Go.ChangeSpec) : _root_.Go.OpenSpec := { _root_.Go.OpenSpec.ofChange s with cond := some uptoSmall }

/-- 'neaptidelaw02.TagNames', WHERE WHAT IT READS IS OF BULK AT MOST 1048576: true; the input reads as it did. -/
def tagNamesUptoRow : OpenClaim := { program := "ytondcelapmbphaa", sum := "68d4e09c24e447854523ac51f0e57740762cb5c01def0460ad3753f101d7bc7c", func := "neaptide/neaptidelaw02.TagNames", spec := "tagNames", apart := false, narrowed := true }
def TagNamesUptoSaid : Prop := tagNamesUptoRow.holds Try.pinned (OpenSpec.upto tagNamesSpec)

/-- 'neaptidelaw02.TagKeys', WHERE WHAT IT READS IS OF BULK AT MOST 1048576: true; the input reads as it did. -/
def tagKeysUptoRow : OpenClaim := { program := "ytondcelapmbphaa", sum := "68d4e09c24e447854523ac51f0e57740762cb5c01def0460ad3753f101d7bc7c", func := "neaptide/neaptidelaw02.TagKeys", spec := "tagKeys", apart := false, narrowed := true }
def TagKeysUptoSaid : Prop := tagKeysUptoRow.holds Try.pinned (OpenSpec.upto tagKeysSpec)

/-- 'neaptidelaw02.TagMarks', WHERE WHAT IT READS IS OF BULK AT MOST 1048576: true; the input reads as it did. -/
def tagMarksUptoRow : OpenClaim := { program := "ytondcelapmbphaa", sum := "68d4e09c24e447854523ac51f0e57740762cb5c01def0460ad3753f101d7bc7c", func := "neaptide/neaptidelaw02.TagMarks", spec := "tagMarks", apart := false, narrowed := true }
def TagMarksUptoSaid : Prop := tagMarksUptoRow.holds Try.pinned (OpenSpec.upto tagMarksSpec)

/-- 'neaptidelaw02.TagParts', WHERE WHAT IT READS IS OF BULK AT MOST 1048576: true; the input reads as it did. -/
def tagPartsUptoRow : OpenClaim := { program := "ytondcelapmbphaa", sum := "68d4e09c24e447854523ac51f0e57740762cb5c01def0460ad3753f101d7bc7c", func := "neaptide/neaptidelaw02.TagParts", spec := "tagParts", apart := false, narrowed := true }
def TagPartsUptoSaid : Prop := tagPartsUptoRow.holds Try.pinned (OpenSpec.upto tagPartsSpec)

/-- 'neaptidelaw02.TagTurns', WHERE WHAT IT READS IS OF BULK AT MOST 1048576: true; the input reads as it did. -/
def tagTurnsUptoRow : OpenClaim := { program := "ytondcelapmbphaa", sum := "68d4e09c24e447854523ac51f0e57740762cb5c01def0460ad3753f101d7bc7c", func := "neaptide/neaptidelaw02.TagTurns", spec := "tagTurns", apart := false, narrowed := true }
def TagTurnsUptoSaid : Prop := tagTurnsUptoRow.holds Try.pinned (OpenSpec.upto tagTurnsSpec)

/-- 'neaptidelaw02.TagSteps', WHERE WHAT IT READS IS OF BULK AT MOST 1048576: true; the input reads as it did. -/
def tagStepsUptoRow : OpenClaim := { program := "ytondcelapmbphaa", sum := "68d4e09c24e447854523ac51f0e57740762cb5c01def0460ad3753f101d7bc7c", func := "neaptide/neaptidelaw02.TagSteps", spec := "tagSteps", apart := false, narrowed := true }
def TagStepsUptoSaid : Prop := tagStepsUptoRow.holds Try.pinned (OpenSpec.upto tagStepsSpec)

/-- 'neaptidelaw14.ViewNames', WHERE WHAT IT READS IS OF BULK AT MOST 1048576: true; the input reads as it did. -/
def viewNamesUptoRow : OpenClaim := { program := "ytondcelapmbphaa", sum := "68d4e09c24e447854523ac51f0e57740762cb5c01def0460ad3753f101d7bc7c", func := "neaptide/neaptidelaw14.ViewNames", spec := "viewNames", apart := false, narrowed := true }
def ViewNamesUptoSaid : Prop := viewNamesUptoRow.holds Try.pinned (OpenSpec.upto viewNamesSpec)

/-- 'neaptidelaw14.ViewTurns', WHERE WHAT IT READS IS OF BULK AT MOST 1048576: true; the input reads as it did. -/
def viewTurnsUptoRow : OpenClaim := { program := "ytondcelapmbphaa", sum := "68d4e09c24e447854523ac51f0e57740762cb5c01def0460ad3753f101d7bc7c", func := "neaptide/neaptidelaw14.ViewTurns", spec := "viewTurns", apart := false, narrowed := true }
def ViewTurnsUptoSaid : Prop := viewTurnsUptoRow.holds Try.pinned (OpenSpec.upto viewTurnsSpec)

/-- 'neaptidelaw14.ViewFair', WHERE WHAT IT READS IS OF BULK AT MOST 1048576: true; the input reads as it did. -/
def viewFairUptoRow : OpenClaim := { program := "ytondcelapmbphaa", sum := "68d4e09c24e447854523ac51f0e57740762cb5c01def0460ad3753f101d7bc7c", func := "neaptide/neaptidelaw14.ViewFair", spec := "viewFair", apart := false, narrowed := true }
def ViewFairUptoSaid : Prop := viewFairUptoRow.holds Try.pinned (OpenSpec.upto viewFairSpec)

/-- 'neaptidelaw14.ViewTicks', WHERE WHAT IT READS IS OF BULK AT MOST 1048576: true; the input reads as it did. -/
def viewTicksUptoRow : OpenClaim := { program := "ytondcelapmbphaa", sum := "68d4e09c24e447854523ac51f0e57740762cb5c01def0460ad3753f101d7bc7c", func := "neaptide/neaptidelaw14.ViewTicks", spec := "viewTicks", apart := false, narrowed := true }
def ViewTicksUptoSaid : Prop := viewTicksUptoRow.holds Try.pinned (OpenSpec.upto viewTicksSpec)

/-- 'neaptidelaw14.ViewWaits', WHERE WHAT IT READS IS OF BULK AT MOST 1048576: true; the input reads as it did. -/
def viewWaitsUptoRow : OpenClaim := { program := "ytondcelapmbphaa", sum := "68d4e09c24e447854523ac51f0e57740762cb5c01def0460ad3753f101d7bc7c", func := "neaptide/neaptidelaw14.ViewWaits", spec := "viewWaits", apart := false, narrowed := true }
def ViewWaitsUptoSaid : Prop := viewWaitsUptoRow.holds Try.pinned (OpenSpec.upto viewWaitsSpec)

/-- 'neaptidelaw14.ViewOver', WHERE WHAT IT READS IS OF BULK AT MOST 1048576: true; the input reads as it did. -/
def viewOverUptoRow : OpenClaim := { program := "ytondcelapmbphaa", sum := "68d4e09c24e447854523ac51f0e57740762cb5c01def0460ad3753f101d7bc7c", func := "neaptide/neaptidelaw14.ViewOver", spec := "viewOver", apart := false, narrowed := true }
def ViewOverUptoSaid : Prop := viewOverUptoRow.holds Try.pinned (OpenSpec.upto viewOverSpec)

end Rows
end Go.Proofs.Ytondcelapmbphaa
