/-
  No cell of these rows narrows 'for every input' (looked for: loops, veiled, ifaces, maps, wideKeys, modest, calm, conditions, laid).
  DERIVED. THE GIVEN ROWS OF THIS SEAT. 9 by the template 'for every input the law returns true; each argument reads behind the call as it read before'; 0 by the template 'total and deterministic' (their statements: YtcofngddgljhdaaTotals.lean).
  GIVEN WITH THE SEED: the statements are not yours to turn. If you find one false, say at which input.
  Laid BY PROGRAM, IN A SANDBOX (cutbox-rows.mjs): the forced cells as the released guide's own fill.sh prints them over the translation 1f33ba301c65a8cd… (all of the seat's roots in one cut). By AI agents, Wed Nov 11 2026. No macro, syntax, notation, axiom, sorry.
-/
import Derived.Test.YtcofngddgljhdaaChecked
import GoSem.Claim
import GoSem.ClaimJoined
import GoSem.ClaimMapViews
import Derived.JoinedTies
import Derived.KernelRfl
namespace Go.Proofs.Ytcofngddgljhdaa
/- THE CELL 'sum', in the pinned program and in every row, IS THE sha256 OF THE DUMP (.gsa) THAT YtcofngddgljhdaaProg.lean LOADS. Nothing in Lean hashes anything: it is a label: what it is worth is what the hold of that sum in a sandbox is worth. -/
noncomputable def Try.pinned : Pinned := { name := "ytcofngddgljhdaa", sum := "1f33ba301c65a8cd63c4e1621c1cee5ec7c1524be5e45ab1c517608df2940c4f", checked := Try.checked }
namespace Rows
def none {H : Type} : Left H := { results := [], args := [] }

/-- 'laws.FnExactViolatingItems': WHATEVER THE INPUT: true; the input reads as it did. -/
def fnExactViolatingItemsSpec : ChangeSpec := { name := "fnExactViolatingItems", fn := fun _ => fun
  | [d1, d2] => { results := [.lit (.bool true)], args := [d1, d2] }
  | _ => none }
def fnExactViolatingItemsRow : OpenClaim := { program := "ytcofngddgljhdaa", sum := "1f33ba301c65a8cd63c4e1621c1cee5ec7c1524be5e45ab1c517608df2940c4f", func := "loop.example/g00925/laws.FnExactViolatingItems", spec := "fnExactViolatingItems", unfollowed := true, recurses := true, apart := false }
def FnExactViolatingItemsSaid : Prop := fnExactViolatingItemsRow.holds Try.pinned (OpenSpec.ofChange fnExactViolatingItemsSpec)

/-- ITS FALSE NEIGHBOUR: 'it returns false'. Refute it at one input. -/
def fnExactViolatingItemsWrong : ChangeSpec := { name := "fnExactViolatingItems", fn := fun _ => fun
  | [d1, d2] => { results := [.lit (.bool false)], args := [d1, d2] }
  | _ => none }
def FnExactViolatingItemsWrongFalsely : Prop := fnExactViolatingItemsRow.holds Try.pinned (OpenSpec.ofChange fnExactViolatingItemsWrong)

/-- 'laws.FnExactSwapItems': WHATEVER THE INPUT: true; the input reads as it did. -/
def fnExactSwapItemsSpec : ChangeSpec := { name := "fnExactSwapItems", fn := fun _ => fun
  | [d1, d2, d3, d4] => { results := [.lit (.bool true)], args := [d1, d2, d3, d4] }
  | _ => none }
def fnExactSwapItemsRow : OpenClaim := { program := "ytcofngddgljhdaa", sum := "1f33ba301c65a8cd63c4e1621c1cee5ec7c1524be5e45ab1c517608df2940c4f", func := "loop.example/g00925/laws.FnExactSwapItems", spec := "fnExactSwapItems", unfollowed := true, recurses := true, apart := false }
def FnExactSwapItemsSaid : Prop := fnExactSwapItemsRow.holds Try.pinned (OpenSpec.ofChange fnExactSwapItemsSpec)

/-- ITS FALSE NEIGHBOUR: 'it returns false'. Refute it at one input. -/
def fnExactSwapItemsWrong : ChangeSpec := { name := "fnExactSwapItems", fn := fun _ => fun
  | [d1, d2, d3, d4] => { results := [.lit (.bool false)], args := [d1, d2, d3, d4] }
  | _ => none }
def FnExactSwapItemsWrongFalsely : Prop := fnExactSwapItemsRow.holds Try.pinned (OpenSpec.ofChange fnExactSwapItemsWrong)

/-- 'laws.FnExactSettleAssignment': WHATEVER THE INPUT: true; the input reads as it did. -/
def fnExactSettleAssignmentSpec : ChangeSpec := { name := "fnExactSettleAssignment", fn := fun _ => fun
  | [d1, d2] => { results := [.lit (.bool true)], args := [d1, d2] }
  | _ => none }
def fnExactSettleAssignmentRow : OpenClaim := { program := "ytcofngddgljhdaa", sum := "1f33ba301c65a8cd63c4e1621c1cee5ec7c1524be5e45ab1c517608df2940c4f", func := "loop.example/g00925/laws.FnExactSettleAssignment", spec := "fnExactSettleAssignment", unfollowed := true, recurses := true, apart := false }
def FnExactSettleAssignmentSaid : Prop := fnExactSettleAssignmentRow.holds Try.pinned (OpenSpec.ofChange fnExactSettleAssignmentSpec)

/-- ITS FALSE NEIGHBOUR: 'it returns false'. Refute it at one input. -/
def fnExactSettleAssignmentWrong : ChangeSpec := { name := "fnExactSettleAssignment", fn := fun _ => fun
  | [d1, d2] => { results := [.lit (.bool false)], args := [d1, d2] }
  | _ => none }
def FnExactSettleAssignmentWrongFalsely : Prop := fnExactSettleAssignmentRow.holds Try.pinned (OpenSpec.ofChange fnExactSettleAssignmentWrong)

/-- 'laws.FnExactRepairGreedy': WHATEVER THE INPUT: true; the input reads as it did. -/
def fnExactRepairGreedySpec : ChangeSpec := { name := "fnExactRepairGreedy", fn := fun _ => fun
  | [d1, d2, d3] => { results := [.lit (.bool true)], args := [d1, d2, d3] }
  | _ => none }
def fnExactRepairGreedyRow : OpenClaim := { program := "ytcofngddgljhdaa", sum := "1f33ba301c65a8cd63c4e1621c1cee5ec7c1524be5e45ab1c517608df2940c4f", func := "loop.example/g00925/laws.FnExactRepairGreedy", spec := "fnExactRepairGreedy", unfollowed := true, recurses := true, apart := false }
def FnExactRepairGreedySaid : Prop := fnExactRepairGreedyRow.holds Try.pinned (OpenSpec.ofChange fnExactRepairGreedySpec)

/-- ITS FALSE NEIGHBOUR: 'it returns false'. Refute it at one input. -/
def fnExactRepairGreedyWrong : ChangeSpec := { name := "fnExactRepairGreedy", fn := fun _ => fun
  | [d1, d2, d3] => { results := [.lit (.bool false)], args := [d1, d2, d3] }
  | _ => none }
def FnExactRepairGreedyWrongFalsely : Prop := fnExactRepairGreedyRow.holds Try.pinned (OpenSpec.ofChange fnExactRepairGreedyWrong)

/-- 'laws.FnExactSaturationAssign': WHATEVER THE INPUT: true; the input reads as it did. -/
def fnExactSaturationAssignSpec : ChangeSpec := { name := "fnExactSaturationAssign", fn := fun _ => fun
  | [d] => { results := [.lit (.bool true)], args := [d] }
  | _ => none }
def fnExactSaturationAssignRow : OpenClaim := { program := "ytcofngddgljhdaa", sum := "1f33ba301c65a8cd63c4e1621c1cee5ec7c1524be5e45ab1c517608df2940c4f", func := "loop.example/g00925/laws.FnExactSaturationAssign", spec := "fnExactSaturationAssign", unfollowed := true, recurses := true, apart := false }
def FnExactSaturationAssignSaid : Prop := fnExactSaturationAssignRow.holds Try.pinned (OpenSpec.ofChange fnExactSaturationAssignSpec)

/-- ITS FALSE NEIGHBOUR: 'it returns false'. Refute it at one input. -/
def fnExactSaturationAssignWrong : ChangeSpec := { name := "fnExactSaturationAssign", fn := fun _ => fun
  | [d] => { results := [.lit (.bool false)], args := [d] }
  | _ => none }
def FnExactSaturationAssignWrongFalsely : Prop := fnExactSaturationAssignRow.holds Try.pinned (OpenSpec.ofChange fnExactSaturationAssignWrong)

/-- 'laws.FnExactMaxClique': WHATEVER THE INPUT: true; the input reads as it did. -/
def fnExactMaxCliqueSpec : ChangeSpec := { name := "fnExactMaxClique", fn := fun _ => fun
  | [d1, d2, d3] => { results := [.lit (.bool true)], args := [d1, d2, d3] }
  | _ => none }
def fnExactMaxCliqueRow : OpenClaim := { program := "ytcofngddgljhdaa", sum := "1f33ba301c65a8cd63c4e1621c1cee5ec7c1524be5e45ab1c517608df2940c4f", func := "loop.example/g00925/laws.FnExactMaxClique", spec := "fnExactMaxClique", unfollowed := true, recurses := true, apart := false }
def FnExactMaxCliqueSaid : Prop := fnExactMaxCliqueRow.holds Try.pinned (OpenSpec.ofChange fnExactMaxCliqueSpec)

/-- ITS FALSE NEIGHBOUR: 'it returns false'. Refute it at one input. -/
def fnExactMaxCliqueWrong : ChangeSpec := { name := "fnExactMaxClique", fn := fun _ => fun
  | [d1, d2, d3] => { results := [.lit (.bool false)], args := [d1, d2, d3] }
  | _ => none }
def FnExactMaxCliqueWrongFalsely : Prop := fnExactMaxCliqueRow.holds Try.pinned (OpenSpec.ofChange fnExactMaxCliqueWrong)

/-- 'laws.FnExactCountAssignments': WHATEVER THE INPUT: true; the input reads as it did. -/
def fnExactCountAssignmentsSpec : ChangeSpec := { name := "fnExactCountAssignments", fn := fun _ => fun
  | [d1, d2] => { results := [.lit (.bool true)], args := [d1, d2] }
  | _ => none }
def fnExactCountAssignmentsRow : OpenClaim := { program := "ytcofngddgljhdaa", sum := "1f33ba301c65a8cd63c4e1621c1cee5ec7c1524be5e45ab1c517608df2940c4f", func := "loop.example/g00925/laws.FnExactCountAssignments", spec := "fnExactCountAssignments", unfollowed := true, recurses := true, apart := false }
def FnExactCountAssignmentsSaid : Prop := fnExactCountAssignmentsRow.holds Try.pinned (OpenSpec.ofChange fnExactCountAssignmentsSpec)

/-- ITS FALSE NEIGHBOUR: 'it returns false'. Refute it at one input. -/
def fnExactCountAssignmentsWrong : ChangeSpec := { name := "fnExactCountAssignments", fn := fun _ => fun
  | [d1, d2] => { results := [.lit (.bool false)], args := [d1, d2] }
  | _ => none }
def FnExactCountAssignmentsWrongFalsely : Prop := fnExactCountAssignmentsRow.holds Try.pinned (OpenSpec.ofChange fnExactCountAssignmentsWrong)

/-- 'laws.FnExactFirstAssignment': WHATEVER THE INPUT: true; the input reads as it did. -/
def fnExactFirstAssignmentSpec : ChangeSpec := { name := "fnExactFirstAssignment", fn := fun _ => fun
  | [d1, d2] => { results := [.lit (.bool true)], args := [d1, d2] }
  | _ => none }
def fnExactFirstAssignmentRow : OpenClaim := { program := "ytcofngddgljhdaa", sum := "1f33ba301c65a8cd63c4e1621c1cee5ec7c1524be5e45ab1c517608df2940c4f", func := "loop.example/g00925/laws.FnExactFirstAssignment", spec := "fnExactFirstAssignment", unfollowed := true, recurses := true, apart := false }
def FnExactFirstAssignmentSaid : Prop := fnExactFirstAssignmentRow.holds Try.pinned (OpenSpec.ofChange fnExactFirstAssignmentSpec)

/-- ITS FALSE NEIGHBOUR: 'it returns false'. Refute it at one input. -/
def fnExactFirstAssignmentWrong : ChangeSpec := { name := "fnExactFirstAssignment", fn := fun _ => fun
  | [d1, d2] => { results := [.lit (.bool false)], args := [d1, d2] }
  | _ => none }
def FnExactFirstAssignmentWrongFalsely : Prop := fnExactFirstAssignmentRow.holds Try.pinned (OpenSpec.ofChange fnExactFirstAssignmentWrong)

/-- 'laws.FnExactLeastSpan': WHATEVER THE INPUT: true; the input reads as it did. -/
def fnExactLeastSpanSpec : ChangeSpec := { name := "fnExactLeastSpan", fn := fun _ => fun
  | [d1, d2] => { results := [.lit (.bool true)], args := [d1, d2] }
  | _ => none }
def fnExactLeastSpanRow : OpenClaim := { program := "ytcofngddgljhdaa", sum := "1f33ba301c65a8cd63c4e1621c1cee5ec7c1524be5e45ab1c517608df2940c4f", func := "loop.example/g00925/laws.FnExactLeastSpan", spec := "fnExactLeastSpan", unfollowed := true, recurses := true, apart := false }
def FnExactLeastSpanSaid : Prop := fnExactLeastSpanRow.holds Try.pinned (OpenSpec.ofChange fnExactLeastSpanSpec)

/-- ITS FALSE NEIGHBOUR: 'it returns false'. Refute it at one input. -/
def fnExactLeastSpanWrong : ChangeSpec := { name := "fnExactLeastSpan", fn := fun _ => fun
  | [d1, d2] => { results := [.lit (.bool false)], args := [d1, d2] }
  | _ => none }
def FnExactLeastSpanWrongFalsely : Prop := fnExactLeastSpanRow.holds Try.pinned (OpenSpec.ofChange fnExactLeastSpanWrong)

/- THE SECOND FORM. 'bulk': how many values and letters a reading holds, each counted each time it is reached (what is shared counts as often as it is met; a slice's spare places count too). A statement '..UptoSaid' is the law's where the arguments, and the package variables that the reading takes, are together of bulk at most 1048576: NARROWER than '..Said'. Prove '..Said' where nothing that the law and all that it calls make is longer than what came in: it says more and counts as full. Else prove '..UptoSaid'. A law counts once. -/
mutual
def uptoBulk {H : Type} : DataW H → Nat
  | .lit (.string bytes) => bytes.length + 1
  | .lit _ => 1
  | .nil => 1
  | .ptr d => uptoBulk d + 1
  | .slice elems spare => uptoBulkAll elems + uptoBulkAll spare + 1
  | .agg parts => uptoBulkAll parts + 1
  | .iface _ d => uptoBulk d + 1
  | .map entries => uptoBulkEntries entries + 1
  | .held _ => 1
def uptoBulkAll {H : Type} : List (DataW H) → Nat
  | [] => 0
  | d :: r => uptoBulk d + uptoBulkAll r
def uptoBulkEntries {H : Type} : List (Lit × DataW H) → Nat
  | [] => 0
  | x :: r => uptoBulkEntry x + uptoBulkEntries r
def uptoBulkEntry {H : Type} : Lit × DataW H → Nat
  | (.string bytes, d) => bytes.length + uptoBulk d + 1
  | (_, d) => uptoBulk d + 1
 end
def uptoSmall : (H : Type) → List (DataW H) → Bool := fun _ ds => decide (uptoBulkAll ds ≤ 1048576)
def OpenSpec.upto (s : _root_.Go.ChangeSpec) : _root_.Go.OpenSpec := { _root_.Go.OpenSpec.ofChange s with cond := some uptoSmall }

/-- 'laws.FnExactViolatingItems', WHERE WHAT IT READS IS OF BULK AT MOST 1048576: true; the input reads as it did. -/
def fnExactViolatingItemsUptoRow : OpenClaim := { program := "ytcofngddgljhdaa", sum := "1f33ba301c65a8cd63c4e1621c1cee5ec7c1524be5e45ab1c517608df2940c4f", func := "loop.example/g00925/laws.FnExactViolatingItems", spec := "fnExactViolatingItems", unfollowed := true, recurses := true, apart := false, narrowed := true }
def FnExactViolatingItemsUptoSaid : Prop := fnExactViolatingItemsUptoRow.holds Try.pinned (OpenSpec.upto fnExactViolatingItemsSpec)

/-- 'laws.FnExactSwapItems', WHERE WHAT IT READS IS OF BULK AT MOST 1048576: true; the input reads as it did. -/
def fnExactSwapItemsUptoRow : OpenClaim := { program := "ytcofngddgljhdaa", sum := "1f33ba301c65a8cd63c4e1621c1cee5ec7c1524be5e45ab1c517608df2940c4f", func := "loop.example/g00925/laws.FnExactSwapItems", spec := "fnExactSwapItems", unfollowed := true, recurses := true, apart := false, narrowed := true }
def FnExactSwapItemsUptoSaid : Prop := fnExactSwapItemsUptoRow.holds Try.pinned (OpenSpec.upto fnExactSwapItemsSpec)

/-- 'laws.FnExactSettleAssignment', WHERE WHAT IT READS IS OF BULK AT MOST 1048576: true; the input reads as it did. -/
def fnExactSettleAssignmentUptoRow : OpenClaim := { program := "ytcofngddgljhdaa", sum := "1f33ba301c65a8cd63c4e1621c1cee5ec7c1524be5e45ab1c517608df2940c4f", func := "loop.example/g00925/laws.FnExactSettleAssignment", spec := "fnExactSettleAssignment", unfollowed := true, recurses := true, apart := false, narrowed := true }
def FnExactSettleAssignmentUptoSaid : Prop := fnExactSettleAssignmentUptoRow.holds Try.pinned (OpenSpec.upto fnExactSettleAssignmentSpec)

/-- 'laws.FnExactRepairGreedy', WHERE WHAT IT READS IS OF BULK AT MOST 1048576: true; the input reads as it did. -/
def fnExactRepairGreedyUptoRow : OpenClaim := { program := "ytcofngddgljhdaa", sum := "1f33ba301c65a8cd63c4e1621c1cee5ec7c1524be5e45ab1c517608df2940c4f", func := "loop.example/g00925/laws.FnExactRepairGreedy", spec := "fnExactRepairGreedy", unfollowed := true, recurses := true, apart := false, narrowed := true }
def FnExactRepairGreedyUptoSaid : Prop := fnExactRepairGreedyUptoRow.holds Try.pinned (OpenSpec.upto fnExactRepairGreedySpec)

/-- 'laws.FnExactSaturationAssign', WHERE WHAT IT READS IS OF BULK AT MOST 1048576: true; the input reads as it did. -/
def fnExactSaturationAssignUptoRow : OpenClaim := { program := "ytcofngddgljhdaa", sum := "1f33ba301c65a8cd63c4e1621c1cee5ec7c1524be5e45ab1c517608df2940c4f", func := "loop.example/g00925/laws.FnExactSaturationAssign", spec := "fnExactSaturationAssign", unfollowed := true, recurses := true, apart := false, narrowed := true }
def FnExactSaturationAssignUptoSaid : Prop := fnExactSaturationAssignUptoRow.holds Try.pinned (OpenSpec.upto fnExactSaturationAssignSpec)

/-- 'laws.FnExactMaxClique', WHERE WHAT IT READS IS OF BULK AT MOST 1048576: true; the input reads as it did. -/
def fnExactMaxCliqueUptoRow : OpenClaim := { program := "ytcofngddgljhdaa", sum := "1f33ba301c65a8cd63c4e1621c1cee5ec7c1524be5e45ab1c517608df2940c4f", func := "loop.example/g00925/laws.FnExactMaxClique", spec := "fnExactMaxClique", unfollowed := true, recurses := true, apart := false, narrowed := true }
def FnExactMaxCliqueUptoSaid : Prop := fnExactMaxCliqueUptoRow.holds Try.pinned (OpenSpec.upto fnExactMaxCliqueSpec)

/-- 'laws.FnExactCountAssignments', WHERE WHAT IT READS IS OF BULK AT MOST 1048576: true; the input reads as it did. -/
def fnExactCountAssignmentsUptoRow : OpenClaim := { program := "ytcofngddgljhdaa", sum := "1f33ba301c65a8cd63c4e1621c1cee5ec7c1524be5e45ab1c517608df2940c4f", func := "loop.example/g00925/laws.FnExactCountAssignments", spec := "fnExactCountAssignments", unfollowed := true, recurses := true, apart := false, narrowed := true }
def FnExactCountAssignmentsUptoSaid : Prop := fnExactCountAssignmentsUptoRow.holds Try.pinned (OpenSpec.upto fnExactCountAssignmentsSpec)

/-- 'laws.FnExactFirstAssignment', WHERE WHAT IT READS IS OF BULK AT MOST 1048576: true; the input reads as it did. -/
def fnExactFirstAssignmentUptoRow : OpenClaim := { program := "ytcofngddgljhdaa", sum := "1f33ba301c65a8cd63c4e1621c1cee5ec7c1524be5e45ab1c517608df2940c4f", func := "loop.example/g00925/laws.FnExactFirstAssignment", spec := "fnExactFirstAssignment", unfollowed := true, recurses := true, apart := false, narrowed := true }
def FnExactFirstAssignmentUptoSaid : Prop := fnExactFirstAssignmentUptoRow.holds Try.pinned (OpenSpec.upto fnExactFirstAssignmentSpec)

/-- 'laws.FnExactLeastSpan', WHERE WHAT IT READS IS OF BULK AT MOST 1048576: true; the input reads as it did. -/
def fnExactLeastSpanUptoRow : OpenClaim := { program := "ytcofngddgljhdaa", sum := "1f33ba301c65a8cd63c4e1621c1cee5ec7c1524be5e45ab1c517608df2940c4f", func := "loop.example/g00925/laws.FnExactLeastSpan", spec := "fnExactLeastSpan", unfollowed := true, recurses := true, apart := false, narrowed := true }
def FnExactLeastSpanUptoSaid : Prop := fnExactLeastSpanUptoRow.holds Try.pinned (OpenSpec.upto fnExactLeastSpanSpec)

end Rows
end Go.Proofs.Ytcofngddgljhdaa
