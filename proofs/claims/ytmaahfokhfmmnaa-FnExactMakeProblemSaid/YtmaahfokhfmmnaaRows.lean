/-
  No cell of these rows narrows 'for every input' (looked for: loops, veiled, ifaces, maps, wideKeys, modest, calm, conditions, laid).
  DERIVED. THE GIVEN ROWS OF THIS SEAT. 12 by the template 'for every input the law returns true; each argument reads behind the call as it read before'; 0 by the template 'total and deterministic' (their statements: YtmaahfokhfmmnaaTotals.lean).
  GIVEN WITH THE SEED: the statements are not yours to turn. If you find one false, say at which input.
  Laid BY PROGRAM, IN A SANDBOX (cutbox-rows.mjs): the forced cells as the released guide's own fill.sh prints them over the translation d1a957d09ce91032… (all of the seat's roots in one cut). By AI agents, Wed Nov 11 2026. No macro, syntax, notation, axiom, sorry.
-/
import Derived.Test.YtmaahfokhfmmnaaChecked
import GoSem.Claim
import GoSem.ClaimJoined
import GoSem.ClaimMapViews
import Derived.JoinedTies
import Derived.KernelRfl
namespace Go.Proofs.Ytmaahfokhfmmnaa
/- THE CELL 'sum', in the pinned program and in every row, IS THE sha256 OF THE DUMP (.gsa) THAT YtmaahfokhfmmnaaProg.lean LOADS. Nothing in Lean hashes anything: it is a label: what it is worth is what the hold of that sum in a sandbox is worth. -/
noncomputable def Try.pinned : Pinned := { name := "ytmaahfokhfmmnaa", sum := "d1a957d09ce910322d968fce83973b4ac384674f91ed834d16d95fd1289452ee", checked := Try.checked }
namespace Rows
def none {H : Type} : Left H := { results := [], args := [] }

/-- 'laws.FnExactSpanOf': WHATEVER THE INPUT: true; the input reads as it did. -/
def fnExactSpanOfSpec : ChangeSpec := { name := "fnExactSpanOf", fn := fun _ => fun
  | [d] => { results := [.lit (.bool true)], args := [d] }
  | _ => none }
def fnExactSpanOfRow : OpenClaim := { program := "ytmaahfokhfmmnaa", sum := "d1a957d09ce910322d968fce83973b4ac384674f91ed834d16d95fd1289452ee", func := "loop.example/g00925/laws.FnExactSpanOf", spec := "fnExactSpanOf", unfollowed := true, recurses := true, apart := false }
def FnExactSpanOfSaid : Prop := fnExactSpanOfRow.holds Try.pinned (OpenSpec.ofChange fnExactSpanOfSpec)

/-- ITS FALSE NEIGHBOUR: 'it returns false'. Refute it at one input. -/
def fnExactSpanOfWrong : ChangeSpec := { name := "fnExactSpanOf", fn := fun _ => fun
  | [d] => { results := [.lit (.bool false)], args := [d] }
  | _ => none }
def FnExactSpanOfWrongFalsely : Prop := fnExactSpanOfRow.holds Try.pinned (OpenSpec.ofChange fnExactSpanOfWrong)

/-- 'laws.FnExactSameProblem': WHATEVER THE INPUT: true; the input reads as it did. -/
def fnExactSameProblemSpec : ChangeSpec := { name := "fnExactSameProblem", fn := fun _ => fun
  | [d1, d2] => { results := [.lit (.bool true)], args := [d1, d2] }
  | _ => none }
def fnExactSameProblemRow : OpenClaim := { program := "ytmaahfokhfmmnaa", sum := "d1a957d09ce910322d968fce83973b4ac384674f91ed834d16d95fd1289452ee", func := "loop.example/g00925/laws.FnExactSameProblem", spec := "fnExactSameProblem", unfollowed := true, recurses := true, apart := false }
def FnExactSameProblemSaid : Prop := fnExactSameProblemRow.holds Try.pinned (OpenSpec.ofChange fnExactSameProblemSpec)

/-- ITS FALSE NEIGHBOUR: 'it returns false'. Refute it at one input. -/
def fnExactSameProblemWrong : ChangeSpec := { name := "fnExactSameProblem", fn := fun _ => fun
  | [d1, d2] => { results := [.lit (.bool false)], args := [d1, d2] }
  | _ => none }
def FnExactSameProblemWrongFalsely : Prop := fnExactSameProblemRow.holds Try.pinned (OpenSpec.ofChange fnExactSameProblemWrong)

/-- 'laws.FnExactValidProblem': WHATEVER THE INPUT: true; the input reads as it did. -/
def fnExactValidProblemSpec : ChangeSpec := { name := "fnExactValidProblem", fn := fun _ => fun
  | [d] => { results := [.lit (.bool true)], args := [d] }
  | _ => none }
def fnExactValidProblemRow : OpenClaim := { program := "ytmaahfokhfmmnaa", sum := "d1a957d09ce910322d968fce83973b4ac384674f91ed834d16d95fd1289452ee", func := "loop.example/g00925/laws.FnExactValidProblem", spec := "fnExactValidProblem", unfollowed := true, recurses := true, apart := false }
def FnExactValidProblemSaid : Prop := fnExactValidProblemRow.holds Try.pinned (OpenSpec.ofChange fnExactValidProblemSpec)

/-- ITS FALSE NEIGHBOUR: 'it returns false'. Refute it at one input. -/
def fnExactValidProblemWrong : ChangeSpec := { name := "fnExactValidProblem", fn := fun _ => fun
  | [d] => { results := [.lit (.bool false)], args := [d] }
  | _ => none }
def FnExactValidProblemWrongFalsely : Prop := fnExactValidProblemRow.holds Try.pinned (OpenSpec.ofChange fnExactValidProblemWrong)

/-- 'laws.FnExactDegreeOf': WHATEVER THE INPUT: true; the input reads as it did. -/
def fnExactDegreeOfSpec : ChangeSpec := { name := "fnExactDegreeOf", fn := fun _ => fun
  | [d1, d2] => { results := [.lit (.bool true)], args := [d1, d2] }
  | _ => none }
def fnExactDegreeOfRow : OpenClaim := { program := "ytmaahfokhfmmnaa", sum := "d1a957d09ce910322d968fce83973b4ac384674f91ed834d16d95fd1289452ee", func := "loop.example/g00925/laws.FnExactDegreeOf", spec := "fnExactDegreeOf", unfollowed := true, recurses := true, apart := false }
def FnExactDegreeOfSaid : Prop := fnExactDegreeOfRow.holds Try.pinned (OpenSpec.ofChange fnExactDegreeOfSpec)

/-- ITS FALSE NEIGHBOUR: 'it returns false'. Refute it at one input. -/
def fnExactDegreeOfWrong : ChangeSpec := { name := "fnExactDegreeOf", fn := fun _ => fun
  | [d1, d2] => { results := [.lit (.bool false)], args := [d1, d2] }
  | _ => none }
def FnExactDegreeOfWrongFalsely : Prop := fnExactDegreeOfRow.holds Try.pinned (OpenSpec.ofChange fnExactDegreeOfWrong)

/-- 'laws.FnExactMakeProblem': WHATEVER THE INPUT: true; the input reads as it did. -/
def fnExactMakeProblemSpec : ChangeSpec := { name := "fnExactMakeProblem", fn := fun _ => fun
  | [d1, d2] => { results := [.lit (.bool true)], args := [d1, d2] }
  | _ => none }
def fnExactMakeProblemRow : OpenClaim := { program := "ytmaahfokhfmmnaa", sum := "d1a957d09ce910322d968fce83973b4ac384674f91ed834d16d95fd1289452ee", func := "loop.example/g00925/laws.FnExactMakeProblem", spec := "fnExactMakeProblem", unfollowed := true, recurses := true, apart := false }
def FnExactMakeProblemSaid : Prop := fnExactMakeProblemRow.holds Try.pinned (OpenSpec.ofChange fnExactMakeProblemSpec)

/-- ITS FALSE NEIGHBOUR: 'it returns false'. Refute it at one input. -/
def fnExactMakeProblemWrong : ChangeSpec := { name := "fnExactMakeProblem", fn := fun _ => fun
  | [d1, d2] => { results := [.lit (.bool false)], args := [d1, d2] }
  | _ => none }
def FnExactMakeProblemWrongFalsely : Prop := fnExactMakeProblemRow.holds Try.pinned (OpenSpec.ofChange fnExactMakeProblemWrong)

/-- 'laws.FnExactPartProblem': WHATEVER THE INPUT: true; the input reads as it did. -/
def fnExactPartProblemSpec : ChangeSpec := { name := "fnExactPartProblem", fn := fun _ => fun
  | [d1, d2] => { results := [.lit (.bool true)], args := [d1, d2] }
  | _ => none }
def fnExactPartProblemRow : OpenClaim := { program := "ytmaahfokhfmmnaa", sum := "d1a957d09ce910322d968fce83973b4ac384674f91ed834d16d95fd1289452ee", func := "loop.example/g00925/laws.FnExactPartProblem", spec := "fnExactPartProblem", unfollowed := true, recurses := true, apart := false }
def FnExactPartProblemSaid : Prop := fnExactPartProblemRow.holds Try.pinned (OpenSpec.ofChange fnExactPartProblemSpec)

/-- ITS FALSE NEIGHBOUR: 'it returns false'. Refute it at one input. -/
def fnExactPartProblemWrong : ChangeSpec := { name := "fnExactPartProblem", fn := fun _ => fun
  | [d1, d2] => { results := [.lit (.bool false)], args := [d1, d2] }
  | _ => none }
def FnExactPartProblemWrongFalsely : Prop := fnExactPartProblemRow.holds Try.pinned (OpenSpec.ofChange fnExactPartProblemWrong)

/-- 'laws.FnExactValidAssignment': WHATEVER THE INPUT: true; the input reads as it did. -/
def fnExactValidAssignmentSpec : ChangeSpec := { name := "fnExactValidAssignment", fn := fun _ => fun
  | [d1, d2] => { results := [.lit (.bool true)], args := [d1, d2] }
  | _ => none }
def fnExactValidAssignmentRow : OpenClaim := { program := "ytmaahfokhfmmnaa", sum := "d1a957d09ce910322d968fce83973b4ac384674f91ed834d16d95fd1289452ee", func := "loop.example/g00925/laws.FnExactValidAssignment", spec := "fnExactValidAssignment", unfollowed := true, recurses := true, apart := false }
def FnExactValidAssignmentSaid : Prop := fnExactValidAssignmentRow.holds Try.pinned (OpenSpec.ofChange fnExactValidAssignmentSpec)

/-- ITS FALSE NEIGHBOUR: 'it returns false'. Refute it at one input. -/
def fnExactValidAssignmentWrong : ChangeSpec := { name := "fnExactValidAssignment", fn := fun _ => fun
  | [d1, d2] => { results := [.lit (.bool false)], args := [d1, d2] }
  | _ => none }
def FnExactValidAssignmentWrongFalsely : Prop := fnExactValidAssignmentRow.holds Try.pinned (OpenSpec.ofChange fnExactValidAssignmentWrong)

/-- 'laws.FnExactViolations': WHATEVER THE INPUT: true; the input reads as it did. -/
def fnExactViolationsSpec : ChangeSpec := { name := "fnExactViolations", fn := fun _ => fun
  | [d1, d2] => { results := [.lit (.bool true)], args := [d1, d2] }
  | _ => none }
def fnExactViolationsRow : OpenClaim := { program := "ytmaahfokhfmmnaa", sum := "d1a957d09ce910322d968fce83973b4ac384674f91ed834d16d95fd1289452ee", func := "loop.example/g00925/laws.FnExactViolations", spec := "fnExactViolations", unfollowed := true, recurses := true, apart := false }
def FnExactViolationsSaid : Prop := fnExactViolationsRow.holds Try.pinned (OpenSpec.ofChange fnExactViolationsSpec)

/-- ITS FALSE NEIGHBOUR: 'it returns false'. Refute it at one input. -/
def fnExactViolationsWrong : ChangeSpec := { name := "fnExactViolations", fn := fun _ => fun
  | [d1, d2] => { results := [.lit (.bool false)], args := [d1, d2] }
  | _ => none }
def FnExactViolationsWrongFalsely : Prop := fnExactViolationsRow.holds Try.pinned (OpenSpec.ofChange fnExactViolationsWrong)

/-- 'laws.FnExactConflictsOf': WHATEVER THE INPUT: true; the input reads as it did. -/
def fnExactConflictsOfSpec : ChangeSpec := { name := "fnExactConflictsOf", fn := fun _ => fun
  | [d1, d2, d3] => { results := [.lit (.bool true)], args := [d1, d2, d3] }
  | _ => none }
def fnExactConflictsOfRow : OpenClaim := { program := "ytmaahfokhfmmnaa", sum := "d1a957d09ce910322d968fce83973b4ac384674f91ed834d16d95fd1289452ee", func := "loop.example/g00925/laws.FnExactConflictsOf", spec := "fnExactConflictsOf", unfollowed := true, recurses := true, apart := false }
def FnExactConflictsOfSaid : Prop := fnExactConflictsOfRow.holds Try.pinned (OpenSpec.ofChange fnExactConflictsOfSpec)

/-- ITS FALSE NEIGHBOUR: 'it returns false'. Refute it at one input. -/
def fnExactConflictsOfWrong : ChangeSpec := { name := "fnExactConflictsOf", fn := fun _ => fun
  | [d1, d2, d3] => { results := [.lit (.bool false)], args := [d1, d2, d3] }
  | _ => none }
def FnExactConflictsOfWrongFalsely : Prop := fnExactConflictsOfRow.holds Try.pinned (OpenSpec.ofChange fnExactConflictsOfWrong)

/-- 'laws.FnExactChoicesFor': WHATEVER THE INPUT: true; the input reads as it did. -/
def fnExactChoicesForSpec : ChangeSpec := { name := "fnExactChoicesFor", fn := fun _ => fun
  | [d1, d2, d3] => { results := [.lit (.bool true)], args := [d1, d2, d3] }
  | _ => none }
def fnExactChoicesForRow : OpenClaim := { program := "ytmaahfokhfmmnaa", sum := "d1a957d09ce910322d968fce83973b4ac384674f91ed834d16d95fd1289452ee", func := "loop.example/g00925/laws.FnExactChoicesFor", spec := "fnExactChoicesFor", unfollowed := true, recurses := true, apart := false }
def FnExactChoicesForSaid : Prop := fnExactChoicesForRow.holds Try.pinned (OpenSpec.ofChange fnExactChoicesForSpec)

/-- ITS FALSE NEIGHBOUR: 'it returns false'. Refute it at one input. -/
def fnExactChoicesForWrong : ChangeSpec := { name := "fnExactChoicesFor", fn := fun _ => fun
  | [d1, d2, d3] => { results := [.lit (.bool false)], args := [d1, d2, d3] }
  | _ => none }
def FnExactChoicesForWrongFalsely : Prop := fnExactChoicesForRow.holds Try.pinned (OpenSpec.ofChange fnExactChoicesForWrong)

/-- 'laws.FnExactFreeChannels': WHATEVER THE INPUT: true; the input reads as it did. -/
def fnExactFreeChannelsSpec : ChangeSpec := { name := "fnExactFreeChannels", fn := fun _ => fun
  | [d1, d2, d3] => { results := [.lit (.bool true)], args := [d1, d2, d3] }
  | _ => none }
def fnExactFreeChannelsRow : OpenClaim := { program := "ytmaahfokhfmmnaa", sum := "d1a957d09ce910322d968fce83973b4ac384674f91ed834d16d95fd1289452ee", func := "loop.example/g00925/laws.FnExactFreeChannels", spec := "fnExactFreeChannels", unfollowed := true, recurses := true, apart := false }
def FnExactFreeChannelsSaid : Prop := fnExactFreeChannelsRow.holds Try.pinned (OpenSpec.ofChange fnExactFreeChannelsSpec)

/-- ITS FALSE NEIGHBOUR: 'it returns false'. Refute it at one input. -/
def fnExactFreeChannelsWrong : ChangeSpec := { name := "fnExactFreeChannels", fn := fun _ => fun
  | [d1, d2, d3] => { results := [.lit (.bool false)], args := [d1, d2, d3] }
  | _ => none }
def FnExactFreeChannelsWrongFalsely : Prop := fnExactFreeChannelsRow.holds Try.pinned (OpenSpec.ofChange fnExactFreeChannelsWrong)

/-- 'laws.FnExactRepairItem': WHATEVER THE INPUT: true; the input reads as it did. -/
def fnExactRepairItemSpec : ChangeSpec := { name := "fnExactRepairItem", fn := fun _ => fun
  | [d1, d2, d3] => { results := [.lit (.bool true)], args := [d1, d2, d3] }
  | _ => none }
def fnExactRepairItemRow : OpenClaim := { program := "ytmaahfokhfmmnaa", sum := "d1a957d09ce910322d968fce83973b4ac384674f91ed834d16d95fd1289452ee", func := "loop.example/g00925/laws.FnExactRepairItem", spec := "fnExactRepairItem", unfollowed := true, recurses := true, apart := false }
def FnExactRepairItemSaid : Prop := fnExactRepairItemRow.holds Try.pinned (OpenSpec.ofChange fnExactRepairItemSpec)

/-- ITS FALSE NEIGHBOUR: 'it returns false'. Refute it at one input. -/
def fnExactRepairItemWrong : ChangeSpec := { name := "fnExactRepairItem", fn := fun _ => fun
  | [d1, d2, d3] => { results := [.lit (.bool false)], args := [d1, d2, d3] }
  | _ => none }
def FnExactRepairItemWrongFalsely : Prop := fnExactRepairItemRow.holds Try.pinned (OpenSpec.ofChange fnExactRepairItemWrong)

/- THE SECOND FORM. 'bulk': how many values and letters a reading holds, each counted each time it is reached (what is shared counts as often as it is met; a slice's spare places count too). A statement '..UptoSaid' is the law's where the arguments, and the package variables that the reading takes, are together of bulk at most 1048576: NARROWER than '..Said'. Prove '..Said' where nothing that the law and all that it calls make is longer than what came in: it says more and counts as full. Else prove '..UptoSaid'. A law counts once. -/
mutual
def uptoBulk {H : Type} : DataW H → Nat
  | .lit (.string bytes) => bytes.length + 1
  | .lit _ => 1
  | .nil => 1
  | .ptr d => uptoBulk d + 1
  | .slice elems spare => uptoBulkAll elems + uptoBulkAll spare + 1
  | .agg parts => uptoBulkAll parts + 1
  | .iface _ d => uptoBulk d + 1
  | .map entries => uptoBulkEntries entries + 1
  | .held _ => 1
def uptoBulkAll {H : Type} : List (DataW H) → Nat
  | [] => 0
  | d :: r => uptoBulk d + uptoBulkAll r
def uptoBulkEntries {H : Type} : List (Lit × DataW H) → Nat
  | [] => 0
  | x :: r => uptoBulkEntry x + uptoBulkEntries r
def uptoBulkEntry {H : Type} : Lit × DataW H → Nat
  | (.string bytes, d) => bytes.length + uptoBulk d + 1
  | (_, d) => uptoBulk d + 1
 end
def uptoSmall : (H : Type) → List (DataW H) → Bool := fun _ ds => decide (uptoBulkAll ds ≤ 1048576)
def OpenSpec.upto (s : _root_.Go.ChangeSpec) : _root_.Go.OpenSpec := { _root_.Go.OpenSpec.ofChange s with cond := some uptoSmall }

/-- 'laws.FnExactSpanOf', WHERE WHAT IT READS IS OF BULK AT MOST 1048576: true; the input reads as it did. -/
def fnExactSpanOfUptoRow : OpenClaim := { program := "ytmaahfokhfmmnaa", sum := "d1a957d09ce910322d968fce83973b4ac384674f91ed834d16d95fd1289452ee", func := "loop.example/g00925/laws.FnExactSpanOf", spec := "fnExactSpanOf", unfollowed := true, recurses := true, apart := false, narrowed := true }
def FnExactSpanOfUptoSaid : Prop := fnExactSpanOfUptoRow.holds Try.pinned (OpenSpec.upto fnExactSpanOfSpec)

/-- 'laws.FnExactSameProblem', WHERE WHAT IT READS IS OF BULK AT MOST 1048576: true; the input reads as it did. -/
def fnExactSameProblemUptoRow : OpenClaim := { program := "ytmaahfokhfmmnaa", sum := "d1a957d09ce910322d968fce83973b4ac384674f91ed834d16d95fd1289452ee", func := "loop.example/g00925/laws.FnExactSameProblem", spec := "fnExactSameProblem", unfollowed := true, recurses := true, apart := false, narrowed := true }
def FnExactSameProblemUptoSaid : Prop := fnExactSameProblemUptoRow.holds Try.pinned (OpenSpec.upto fnExactSameProblemSpec)

/-- 'laws.FnExactValidProblem', WHERE WHAT IT READS IS OF BULK AT MOST 1048576: true; the input reads as it did. -/
def fnExactValidProblemUptoRow : OpenClaim := { program := "ytmaahfokhfmmnaa", sum := "d1a957d09ce910322d968fce83973b4ac384674f91ed834d16d95fd1289452ee", func := "loop.example/g00925/laws.FnExactValidProblem", spec := "fnExactValidProblem", unfollowed := true, recurses := true, apart := false, narrowed := true }
def FnExactValidProblemUptoSaid : Prop := fnExactValidProblemUptoRow.holds Try.pinned (OpenSpec.upto fnExactValidProblemSpec)

/-- 'laws.FnExactDegreeOf', WHERE WHAT IT READS IS OF BULK AT MOST 1048576: true; the input reads as it did. -/
def fnExactDegreeOfUptoRow : OpenClaim := { program := "ytmaahfokhfmmnaa", sum := "d1a957d09ce910322d968fce83973b4ac384674f91ed834d16d95fd1289452ee", func := "loop.example/g00925/laws.FnExactDegreeOf", spec := "fnExactDegreeOf", unfollowed := true, recurses := true, apart := false, narrowed := true }
def FnExactDegreeOfUptoSaid : Prop := fnExactDegreeOfUptoRow.holds Try.pinned (OpenSpec.upto fnExactDegreeOfSpec)

/-- 'laws.FnExactMakeProblem', WHERE WHAT IT READS IS OF BULK AT MOST 1048576: true; the input reads as it did. -/
def fnExactMakeProblemUptoRow : OpenClaim := { program := "ytmaahfokhfmmnaa", sum := "d1a957d09ce910322d968fce83973b4ac384674f91ed834d16d95fd1289452ee", func := "loop.example/g00925/laws.FnExactMakeProblem", spec := "fnExactMakeProblem", unfollowed := true, recurses := true, apart := false, narrowed := true }
def FnExactMakeProblemUptoSaid : Prop := fnExactMakeProblemUptoRow.holds Try.pinned (OpenSpec.upto fnExactMakeProblemSpec)

/-- 'laws.FnExactPartProblem', WHERE WHAT IT READS IS OF BULK AT MOST 1048576: true; the input reads as it did. -/
def fnExactPartProblemUptoRow : OpenClaim := { program := "ytmaahfokhfmmnaa", sum := "d1a957d09ce910322d968fce83973b4ac384674f91ed834d16d95fd1289452ee", func := "loop.example/g00925/laws.FnExactPartProblem", spec := "fnExactPartProblem", unfollowed := true, recurses := true, apart := false, narrowed := true }
def FnExactPartProblemUptoSaid : Prop := fnExactPartProblemUptoRow.holds Try.pinned (OpenSpec.upto fnExactPartProblemSpec)

/-- 'laws.FnExactValidAssignment', WHERE WHAT IT READS IS OF BULK AT MOST 1048576: true; the input reads as it did. -/
def fnExactValidAssignmentUptoRow : OpenClaim := { program := "ytmaahfokhfmmnaa", sum := "d1a957d09ce910322d968fce83973b4ac384674f91ed834d16d95fd1289452ee", func := "loop.example/g00925/laws.FnExactValidAssignment", spec := "fnExactValidAssignment", unfollowed := true, recurses := true, apart := false, narrowed := true }
def FnExactValidAssignmentUptoSaid : Prop := fnExactValidAssignmentUptoRow.holds Try.pinned (OpenSpec.upto fnExactValidAssignmentSpec)

/-- 'laws.FnExactViolations', WHERE WHAT IT READS IS OF BULK AT MOST 1048576: true; the input reads as it did. -/
def fnExactViolationsUptoRow : OpenClaim := { program := "ytmaahfokhfmmnaa", sum := "d1a957d09ce910322d968fce83973b4ac384674f91ed834d16d95fd1289452ee", func := "loop.example/g00925/laws.FnExactViolations", spec := "fnExactViolations", unfollowed := true, recurses := true, apart := false, narrowed := true }
def FnExactViolationsUptoSaid : Prop := fnExactViolationsUptoRow.holds Try.pinned (OpenSpec.upto fnExactViolationsSpec)

/-- 'laws.FnExactConflictsOf', WHERE WHAT IT READS IS OF BULK AT MOST 1048576: true; the input reads as it did. -/
def fnExactConflictsOfUptoRow : OpenClaim := { program := "ytmaahfokhfmmnaa", sum := "d1a957d09ce910322d968fce83973b4ac384674f91ed834d16d95fd1289452ee", func := "loop.example/g00925/laws.FnExactConflictsOf", spec := "fnExactConflictsOf", unfollowed := true, recurses := true, apart := false, narrowed := true }
def FnExactConflictsOfUptoSaid : Prop := fnExactConflictsOfUptoRow.holds Try.pinned (OpenSpec.upto fnExactConflictsOfSpec)

/-- 'laws.FnExactChoicesFor', WHERE WHAT IT READS IS OF BULK AT MOST 1048576: true; the input reads as it did. -/
def fnExactChoicesForUptoRow : OpenClaim := { program := "ytmaahfokhfmmnaa", sum := "d1a957d09ce910322d968fce83973b4ac384674f91ed834d16d95fd1289452ee", func := "loop.example/g00925/laws.FnExactChoicesFor", spec := "fnExactChoicesFor", unfollowed := true, recurses := true, apart := false, narrowed := true }
def FnExactChoicesForUptoSaid : Prop := fnExactChoicesForUptoRow.holds Try.pinned (OpenSpec.upto fnExactChoicesForSpec)

/-- 'laws.FnExactFreeChannels', WHERE WHAT IT READS IS OF BULK AT MOST 1048576: true; the input reads as it did. -/
def fnExactFreeChannelsUptoRow : OpenClaim := { program := "ytmaahfokhfmmnaa", sum := "d1a957d09ce910322d968fce83973b4ac384674f91ed834d16d95fd1289452ee", func := "loop.example/g00925/laws.FnExactFreeChannels", spec := "fnExactFreeChannels", unfollowed := true, recurses := true, apart := false, narrowed := true }
def FnExactFreeChannelsUptoSaid : Prop := fnExactFreeChannelsUptoRow.holds Try.pinned (OpenSpec.upto fnExactFreeChannelsSpec)

/-- 'laws.FnExactRepairItem', WHERE WHAT IT READS IS OF BULK AT MOST 1048576: true; the input reads as it did. -/
def fnExactRepairItemUptoRow : OpenClaim := { program := "ytmaahfokhfmmnaa", sum := "d1a957d09ce910322d968fce83973b4ac384674f91ed834d16d95fd1289452ee", func := "loop.example/g00925/laws.FnExactRepairItem", spec := "fnExactRepairItem", unfollowed := true, recurses := true, apart := false, narrowed := true }
def FnExactRepairItemUptoSaid : Prop := fnExactRepairItemUptoRow.holds Try.pinned (OpenSpec.upto fnExactRepairItemSpec)

end Rows
end Go.Proofs.Ytmaahfokhfmmnaa
