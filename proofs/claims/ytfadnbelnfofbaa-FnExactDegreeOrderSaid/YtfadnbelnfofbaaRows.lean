/-
  No cell of these rows narrows 'for every input' (looked for: loops, veiled, ifaces, maps, wideKeys, modest, calm, conditions, laid).
  DERIVED. THE GIVEN ROWS OF THIS SEAT. 5 by the template 'for every input the law returns true; each argument reads behind the call as it read before'; 0 by the template 'total and deterministic' (their statements: YtfadnbelnfofbaaTotals.lean).
  GIVEN WITH THE SEED: the statements are not yours to turn. If you find one false, say at which input.
  Laid BY PROGRAM, IN A SANDBOX (cutbox-rows.mjs): the forced cells as the released guide's own fill.sh prints them over the translation 6619ba4feb42261b… (all of the seat's roots in one cut). By AI agents, Wed Nov 11 2026. No macro, syntax, notation, axiom, sorry.
-/
import Derived.Test.YtfadnbelnfofbaaChecked
import GoSem.Claim
import GoSem.ClaimJoined
import GoSem.ClaimMapViews
import Derived.JoinedTies
import Derived.KernelRfl
namespace Go.Proofs.Ytfadnbelnfofbaa
/- THE CELL 'sum', in the pinned program and in every row, IS THE sha256 OF THE DUMP (.gsa) THAT YtfadnbelnfofbaaProg.lean LOADS. Nothing in Lean hashes anything: it is a label: what it is worth is what the hold of that sum in a sandbox is worth. -/
noncomputable def Try.pinned : Pinned := { name := "ytfadnbelnfofbaa", sum := "6619ba4feb42261b3a9523cd2e1bc0480e3dba7f64744316150c11595785ffd4", checked := Try.checked }
namespace Rows
def none {H : Type} : Left H := { results := [], args := [] }

/-- 'laws.FnExactDegreeOrder': WHATEVER THE INPUT: true; the input reads as it did. -/
def fnExactDegreeOrderSpec : ChangeSpec := { name := "fnExactDegreeOrder", fn := fun _ => fun
  | [d] => { results := [.lit (.bool true)], args := [d] }
  | _ => none }
def fnExactDegreeOrderRow : OpenClaim := { program := "ytfadnbelnfofbaa", sum := "6619ba4feb42261b3a9523cd2e1bc0480e3dba7f64744316150c11595785ffd4", func := "loop.example/g00925/laws.FnExactDegreeOrder", spec := "fnExactDegreeOrder", unfollowed := true, recurses := true, apart := false }
def FnExactDegreeOrderSaid : Prop := fnExactDegreeOrderRow.holds Try.pinned (OpenSpec.ofChange fnExactDegreeOrderSpec)

/-- ITS FALSE NEIGHBOUR: 'it returns false'. Refute it at one input. -/
def fnExactDegreeOrderWrong : ChangeSpec := { name := "fnExactDegreeOrder", fn := fun _ => fun
  | [d] => { results := [.lit (.bool false)], args := [d] }
  | _ => none }
def FnExactDegreeOrderWrongFalsely : Prop := fnExactDegreeOrderRow.holds Try.pinned (OpenSpec.ofChange fnExactDegreeOrderWrong)

/-- 'laws.FnExactGreedyAssign': WHATEVER THE INPUT: true; the input reads as it did. -/
def fnExactGreedyAssignSpec : ChangeSpec := { name := "fnExactGreedyAssign", fn := fun _ => fun
  | [d1, d2] => { results := [.lit (.bool true)], args := [d1, d2] }
  | _ => none }
def fnExactGreedyAssignRow : OpenClaim := { program := "ytfadnbelnfofbaa", sum := "6619ba4feb42261b3a9523cd2e1bc0480e3dba7f64744316150c11595785ffd4", func := "loop.example/g00925/laws.FnExactGreedyAssign", spec := "fnExactGreedyAssign", unfollowed := true, recurses := true, apart := false }
def FnExactGreedyAssignSaid : Prop := fnExactGreedyAssignRow.holds Try.pinned (OpenSpec.ofChange fnExactGreedyAssignSpec)

/-- ITS FALSE NEIGHBOUR: 'it returns false'. Refute it at one input. -/
def fnExactGreedyAssignWrong : ChangeSpec := { name := "fnExactGreedyAssign", fn := fun _ => fun
  | [d1, d2] => { results := [.lit (.bool false)], args := [d1, d2] }
  | _ => none }
def FnExactGreedyAssignWrongFalsely : Prop := fnExactGreedyAssignRow.holds Try.pinned (OpenSpec.ofChange fnExactGreedyAssignWrong)

/-- 'laws.FnExactSwapChain': WHATEVER THE INPUT: true; the input reads as it did. -/
def fnExactSwapChainSpec : ChangeSpec := { name := "fnExactSwapChain", fn := fun _ => fun
  | [d1, d2, d3, d4] => { results := [.lit (.bool true)], args := [d1, d2, d3, d4] }
  | _ => none }
def fnExactSwapChainRow : OpenClaim := { program := "ytfadnbelnfofbaa", sum := "6619ba4feb42261b3a9523cd2e1bc0480e3dba7f64744316150c11595785ffd4", func := "loop.example/g00925/laws.FnExactSwapChain", spec := "fnExactSwapChain", unfollowed := true, recurses := true, apart := false }
def FnExactSwapChainSaid : Prop := fnExactSwapChainRow.holds Try.pinned (OpenSpec.ofChange fnExactSwapChainSpec)

/-- ITS FALSE NEIGHBOUR: 'it returns false'. Refute it at one input. -/
def fnExactSwapChainWrong : ChangeSpec := { name := "fnExactSwapChain", fn := fun _ => fun
  | [d1, d2, d3, d4] => { results := [.lit (.bool false)], args := [d1, d2, d3, d4] }
  | _ => none }
def FnExactSwapChainWrongFalsely : Prop := fnExactSwapChainRow.holds Try.pinned (OpenSpec.ofChange fnExactSwapChainWrong)

/-- 'laws.FnExactChainOf': WHATEVER THE INPUT: true; the input reads as it did. -/
def fnExactChainOfSpec : ChangeSpec := { name := "fnExactChainOf", fn := fun _ => fun
  | [d1, d2, d3, d4] => { results := [.lit (.bool true)], args := [d1, d2, d3, d4] }
  | _ => none }
def fnExactChainOfRow : OpenClaim := { program := "ytfadnbelnfofbaa", sum := "6619ba4feb42261b3a9523cd2e1bc0480e3dba7f64744316150c11595785ffd4", func := "loop.example/g00925/laws.FnExactChainOf", spec := "fnExactChainOf", unfollowed := true, recurses := true, apart := false }
def FnExactChainOfSaid : Prop := fnExactChainOfRow.holds Try.pinned (OpenSpec.ofChange fnExactChainOfSpec)

/-- ITS FALSE NEIGHBOUR: 'it returns false'. Refute it at one input. -/
def fnExactChainOfWrong : ChangeSpec := { name := "fnExactChainOf", fn := fun _ => fun
  | [d1, d2, d3, d4] => { results := [.lit (.bool false)], args := [d1, d2, d3, d4] }
  | _ => none }
def FnExactChainOfWrongFalsely : Prop := fnExactChainOfRow.holds Try.pinned (OpenSpec.ofChange fnExactChainOfWrong)

/-- 'laws.FnExactCliqueBound': WHATEVER THE INPUT: true; the input reads as it did. -/
def fnExactCliqueBoundSpec : ChangeSpec := { name := "fnExactCliqueBound", fn := fun _ => fun
  | [d1, d2] => { results := [.lit (.bool true)], args := [d1, d2] }
  | _ => none }
def fnExactCliqueBoundRow : OpenClaim := { program := "ytfadnbelnfofbaa", sum := "6619ba4feb42261b3a9523cd2e1bc0480e3dba7f64744316150c11595785ffd4", func := "loop.example/g00925/laws.FnExactCliqueBound", spec := "fnExactCliqueBound", unfollowed := true, recurses := true, apart := false }
def FnExactCliqueBoundSaid : Prop := fnExactCliqueBoundRow.holds Try.pinned (OpenSpec.ofChange fnExactCliqueBoundSpec)

/-- ITS FALSE NEIGHBOUR: 'it returns false'. Refute it at one input. -/
def fnExactCliqueBoundWrong : ChangeSpec := { name := "fnExactCliqueBound", fn := fun _ => fun
  | [d1, d2] => { results := [.lit (.bool false)], args := [d1, d2] }
  | _ => none }
def FnExactCliqueBoundWrongFalsely : Prop := fnExactCliqueBoundRow.holds Try.pinned (OpenSpec.ofChange fnExactCliqueBoundWrong)

/- THE SECOND FORM. 'bulk': how many values and letters a reading holds, each counted each time it is reached (what is shared counts as often as it is met; a slice's spare places count too). A statement '..UptoSaid' is the law's where the arguments, and the package variables that the reading takes, are together of bulk at most 1048576: NARROWER than '..Said'. Prove '..Said' where nothing that the law and all that it calls make is longer than what came in: it says more and counts as full. Else prove '..UptoSaid'. A law counts once. -/
mutual
def uptoBulk {H : Type} : DataW H → Nat
  | .lit (.string bytes) => bytes.length + 1
  | .lit _ => 1
  | .nil => 1
  | .ptr d => uptoBulk d + 1
  | .slice elems spare => uptoBulkAll elems + uptoBulkAll spare + 1
  | .agg parts => uptoBulkAll parts + 1
  | .iface _ d => uptoBulk d + 1
  | .map entries => uptoBulkEntries entries + 1
  | .held _ => 1
def uptoBulkAll {H : Type} : List (DataW H) → Nat
  | [] => 0
  | d :: r => uptoBulk d + uptoBulkAll r
def uptoBulkEntries {H : Type} : List (Lit × DataW H) → Nat
  | [] => 0
  | x :: r => uptoBulkEntry x + uptoBulkEntries r
def uptoBulkEntry {H : Type} : Lit × DataW H → Nat
  | (.string bytes, d) => bytes.length + uptoBulk d + 1
  | (_, d) => uptoBulk d + 1
 end
def uptoSmall : (H : Type) → List (DataW H) → Bool := fun _ ds => decide (uptoBulkAll ds ≤ 1048576)
def OpenSpec.upto (s : _root_.Go.ChangeSpec) : _root_.Go.OpenSpec := { _root_.Go.OpenSpec.ofChange s with cond := some uptoSmall }

/-- 'laws.FnExactDegreeOrder', WHERE WHAT IT READS IS OF BULK AT MOST 1048576: true; the input reads as it did. -/
def fnExactDegreeOrderUptoRow : OpenClaim := { program := "ytfadnbelnfofbaa", sum := "6619ba4feb42261b3a9523cd2e1bc0480e3dba7f64744316150c11595785ffd4", func := "loop.example/g00925/laws.FnExactDegreeOrder", spec := "fnExactDegreeOrder", unfollowed := true, recurses := true, apart := false, narrowed := true }
def FnExactDegreeOrderUptoSaid : Prop := fnExactDegreeOrderUptoRow.holds Try.pinned (OpenSpec.upto fnExactDegreeOrderSpec)

/-- 'laws.FnExactGreedyAssign', WHERE WHAT IT READS IS OF BULK AT MOST 1048576: true; the input reads as it did. -/
def fnExactGreedyAssignUptoRow : OpenClaim := { program := "ytfadnbelnfofbaa", sum := "6619ba4feb42261b3a9523cd2e1bc0480e3dba7f64744316150c11595785ffd4", func := "loop.example/g00925/laws.FnExactGreedyAssign", spec := "fnExactGreedyAssign", unfollowed := true, recurses := true, apart := false, narrowed := true }
def FnExactGreedyAssignUptoSaid : Prop := fnExactGreedyAssignUptoRow.holds Try.pinned (OpenSpec.upto fnExactGreedyAssignSpec)

/-- 'laws.FnExactSwapChain', WHERE WHAT IT READS IS OF BULK AT MOST 1048576: true; the input reads as it did. -/
def fnExactSwapChainUptoRow : OpenClaim := { program := "ytfadnbelnfofbaa", sum := "6619ba4feb42261b3a9523cd2e1bc0480e3dba7f64744316150c11595785ffd4", func := "loop.example/g00925/laws.FnExactSwapChain", spec := "fnExactSwapChain", unfollowed := true, recurses := true, apart := false, narrowed := true }
def FnExactSwapChainUptoSaid : Prop := fnExactSwapChainUptoRow.holds Try.pinned (OpenSpec.upto fnExactSwapChainSpec)

/-- 'laws.FnExactChainOf', WHERE WHAT IT READS IS OF BULK AT MOST 1048576: true; the input reads as it did. -/
def fnExactChainOfUptoRow : OpenClaim := { program := "ytfadnbelnfofbaa", sum := "6619ba4feb42261b3a9523cd2e1bc0480e3dba7f64744316150c11595785ffd4", func := "loop.example/g00925/laws.FnExactChainOf", spec := "fnExactChainOf", unfollowed := true, recurses := true, apart := false, narrowed := true }
def FnExactChainOfUptoSaid : Prop := fnExactChainOfUptoRow.holds Try.pinned (OpenSpec.upto fnExactChainOfSpec)

/-- 'laws.FnExactCliqueBound', WHERE WHAT IT READS IS OF BULK AT MOST 1048576: true; the input reads as it did. -/
def fnExactCliqueBoundUptoRow : OpenClaim := { program := "ytfadnbelnfofbaa", sum := "6619ba4feb42261b3a9523cd2e1bc0480e3dba7f64744316150c11595785ffd4", func := "loop.example/g00925/laws.FnExactCliqueBound", spec := "fnExactCliqueBound", unfollowed := true, recurses := true, apart := false, narrowed := true }
def FnExactCliqueBoundUptoSaid : Prop := fnExactCliqueBoundUptoRow.holds Try.pinned (OpenSpec.upto fnExactCliqueBoundSpec)

end Rows
end Go.Proofs.Ytfadnbelnfofbaa
