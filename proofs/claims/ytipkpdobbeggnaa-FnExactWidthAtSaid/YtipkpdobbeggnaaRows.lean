/-
  No cell of these rows narrows 'for every input' (looked for: loops, veiled, ifaces, maps, wideKeys, modest, calm, conditions, laid).
  DERIVED. THE GIVEN ROWS OF THIS SEAT. 4 by the template 'for every input the law returns true; each argument reads behind the call as it read before'; 0 by the template 'total and deterministic' (their statements: YtipkpdobbeggnaaTotals.lean).
  GIVEN WITH THE SEED: the statements are not yours to turn. If you find one false, say at which input.
  Laid BY PROGRAM, IN A SANDBOX (cutbox-rows.mjs): the forced cells as the released guide's own fill.sh prints them over the translation 072d590d7bb6708b… (all of the seat's roots in one cut). By AI agents, Wed Nov 11 2026. No macro, syntax, notation, axiom, sorry.
-/
import Derived.Test.YtipkpdobbeggnaaChecked
import GoSem.Claim
import GoSem.ClaimJoined
import GoSem.ClaimMapViews
import Derived.JoinedTies
import Derived.KernelRfl
namespace Go.Proofs.Ytipkpdobbeggnaa
/- THE CELL 'sum', in the pinned program and in every row, IS THE sha256 OF THE DUMP (.gsa) THAT YtipkpdobbeggnaaProg.lean LOADS. Nothing in Lean hashes anything: it is a label: what it is worth is what the hold of that sum in a sandbox is worth. -/
noncomputable def Try.pinned : Pinned := { name := "ytipkpdobbeggnaa", sum := "072d590d7bb6708b87a97368d9ed81c0684ae04a3b8a217fb8b7a1b22f420d15", checked := Try.checked }
namespace Rows
def none {H : Type} : Left H := { results := [], args := [] }

/-- 'laws.FnExactNeedMatrix': WHATEVER THE INPUT: true; the input reads as it did. -/
def fnExactNeedMatrixSpec : ChangeSpec := { name := "fnExactNeedMatrix", fn := fun _ => fun
  | [d1, d2, d3] => { results := [.lit (.bool true)], args := [d1, d2, d3] }
  | _ => none }
def fnExactNeedMatrixRow : OpenClaim := { program := "ytipkpdobbeggnaa", sum := "072d590d7bb6708b87a97368d9ed81c0684ae04a3b8a217fb8b7a1b22f420d15", func := "loop.example/g00925/laws.FnExactNeedMatrix", spec := "fnExactNeedMatrix", unfollowed := true, recurses := true, apart := false }
def FnExactNeedMatrixSaid : Prop := fnExactNeedMatrixRow.holds Try.pinned (OpenSpec.ofChange fnExactNeedMatrixSpec)

/-- ITS FALSE NEIGHBOUR: 'it returns false'. Refute it at one input. -/
def fnExactNeedMatrixWrong : ChangeSpec := { name := "fnExactNeedMatrix", fn := fun _ => fun
  | [d1, d2, d3] => { results := [.lit (.bool false)], args := [d1, d2, d3] }
  | _ => none }
def FnExactNeedMatrixWrongFalsely : Prop := fnExactNeedMatrixRow.holds Try.pinned (OpenSpec.ofChange fnExactNeedMatrixWrong)

/-- 'laws.FnExactProblemOf': WHATEVER THE INPUT: true; the input reads as it did. -/
def fnExactProblemOfSpec : ChangeSpec := { name := "fnExactProblemOf", fn := fun _ => fun
  | [d1, d2, d3, d4] => { results := [.lit (.bool true)], args := [d1, d2, d3, d4] }
  | _ => none }
def fnExactProblemOfRow : OpenClaim := { program := "ytipkpdobbeggnaa", sum := "072d590d7bb6708b87a97368d9ed81c0684ae04a3b8a217fb8b7a1b22f420d15", func := "loop.example/g00925/laws.FnExactProblemOf", spec := "fnExactProblemOf", unfollowed := true, recurses := true, apart := false }
def FnExactProblemOfSaid : Prop := fnExactProblemOfRow.holds Try.pinned (OpenSpec.ofChange fnExactProblemOfSpec)

/-- ITS FALSE NEIGHBOUR: 'it returns false'. Refute it at one input. -/
def fnExactProblemOfWrong : ChangeSpec := { name := "fnExactProblemOf", fn := fun _ => fun
  | [d1, d2, d3, d4] => { results := [.lit (.bool false)], args := [d1, d2, d3, d4] }
  | _ => none }
def FnExactProblemOfWrongFalsely : Prop := fnExactProblemOfRow.holds Try.pinned (OpenSpec.ofChange fnExactProblemOfWrong)

/-- 'laws.FnExactWidthAt': WHATEVER THE INPUT: true; the input reads as it did. -/
def fnExactWidthAtSpec : ChangeSpec := { name := "fnExactWidthAt", fn := fun _ => fun
  | [d1, d2] => { results := [.lit (.bool true)], args := [d1, d2] }
  | _ => none }
def fnExactWidthAtRow : OpenClaim := { program := "ytipkpdobbeggnaa", sum := "072d590d7bb6708b87a97368d9ed81c0684ae04a3b8a217fb8b7a1b22f420d15", func := "loop.example/g00925/laws.FnExactWidthAt", spec := "fnExactWidthAt", unfollowed := true, recurses := true, apart := false }
def FnExactWidthAtSaid : Prop := fnExactWidthAtRow.holds Try.pinned (OpenSpec.ofChange fnExactWidthAtSpec)

/-- ITS FALSE NEIGHBOUR: 'it returns false'. Refute it at one input. -/
def fnExactWidthAtWrong : ChangeSpec := { name := "fnExactWidthAt", fn := fun _ => fun
  | [d1, d2] => { results := [.lit (.bool false)], args := [d1, d2] }
  | _ => none }
def FnExactWidthAtWrongFalsely : Prop := fnExactWidthAtRow.holds Try.pinned (OpenSpec.ofChange fnExactWidthAtWrong)

/-- 'laws.FnExactSameNetwork': WHATEVER THE INPUT: true; the input reads as it did. -/
def fnExactSameNetworkSpec : ChangeSpec := { name := "fnExactSameNetwork", fn := fun _ => fun
  | [d1, d2] => { results := [.lit (.bool true)], args := [d1, d2] }
  | _ => none }
def fnExactSameNetworkRow : OpenClaim := { program := "ytipkpdobbeggnaa", sum := "072d590d7bb6708b87a97368d9ed81c0684ae04a3b8a217fb8b7a1b22f420d15", func := "loop.example/g00925/laws.FnExactSameNetwork", spec := "fnExactSameNetwork", unfollowed := true, recurses := true, apart := false }
def FnExactSameNetworkSaid : Prop := fnExactSameNetworkRow.holds Try.pinned (OpenSpec.ofChange fnExactSameNetworkSpec)

/-- ITS FALSE NEIGHBOUR: 'it returns false'. Refute it at one input. -/
def fnExactSameNetworkWrong : ChangeSpec := { name := "fnExactSameNetwork", fn := fun _ => fun
  | [d1, d2] => { results := [.lit (.bool false)], args := [d1, d2] }
  | _ => none }
def FnExactSameNetworkWrongFalsely : Prop := fnExactSameNetworkRow.holds Try.pinned (OpenSpec.ofChange fnExactSameNetworkWrong)

/- THE SECOND FORM. 'bulk': how many values and letters a reading holds, each counted each time it is reached (what is shared counts as often as it is met; a slice's spare places count too). A statement '..UptoSaid' is the law's where the arguments, and the package variables that the reading takes, are together of bulk at most 1048576: NARROWER than '..Said'. Prove '..Said' where nothing that the law and all that it calls make is longer than what came in: it says more and counts as full. Else prove '..UptoSaid'. A law counts once. -/
mutual
def uptoBulk {H : Type} : DataW H → Nat
  | .lit (.string bytes) => bytes.length + 1
  | .lit _ => 1
  | .nil => 1
  | .ptr d => uptoBulk d + 1
  | .slice elems spare => uptoBulkAll elems + uptoBulkAll spare + 1
  | .agg parts => uptoBulkAll parts + 1
  | .iface _ d => uptoBulk d + 1
  | .map entries => uptoBulkEntries entries + 1
  | .held _ => 1
def uptoBulkAll {H : Type} : List (DataW H) → Nat
  | [] => 0
  | d :: r => uptoBulk d + uptoBulkAll r
def uptoBulkEntries {H : Type} : List (Lit × DataW H) → Nat
  | [] => 0
  | x :: r => uptoBulkEntry x + uptoBulkEntries r
def uptoBulkEntry {H : Type} : Lit × DataW H → Nat
  | (.string bytes, d) => bytes.length + uptoBulk d + 1
  | (_, d) => uptoBulk d + 1
 end
def uptoSmall : (H : Type) → List (DataW H) → Bool := fun _ ds => decide (uptoBulkAll ds ≤ 1048576)
def OpenSpec.upto (s : _root_.Go.ChangeSpec) : _root_.Go.OpenSpec := { _root_.Go.OpenSpec.ofChange s with cond := some uptoSmall }

/-- 'laws.FnExactNeedMatrix', WHERE WHAT IT READS IS OF BULK AT MOST 1048576: true; the input reads as it did. -/
def fnExactNeedMatrixUptoRow : OpenClaim := { program := "ytipkpdobbeggnaa", sum := "072d590d7bb6708b87a97368d9ed81c0684ae04a3b8a217fb8b7a1b22f420d15", func := "loop.example/g00925/laws.FnExactNeedMatrix", spec := "fnExactNeedMatrix", unfollowed := true, recurses := true, apart := false, narrowed := true }
def FnExactNeedMatrixUptoSaid : Prop := fnExactNeedMatrixUptoRow.holds Try.pinned (OpenSpec.upto fnExactNeedMatrixSpec)

/-- 'laws.FnExactProblemOf', WHERE WHAT IT READS IS OF BULK AT MOST 1048576: true; the input reads as it did. -/
def fnExactProblemOfUptoRow : OpenClaim := { program := "ytipkpdobbeggnaa", sum := "072d590d7bb6708b87a97368d9ed81c0684ae04a3b8a217fb8b7a1b22f420d15", func := "loop.example/g00925/laws.FnExactProblemOf", spec := "fnExactProblemOf", unfollowed := true, recurses := true, apart := false, narrowed := true }
def FnExactProblemOfUptoSaid : Prop := fnExactProblemOfUptoRow.holds Try.pinned (OpenSpec.upto fnExactProblemOfSpec)

/-- 'laws.FnExactWidthAt', WHERE WHAT IT READS IS OF BULK AT MOST 1048576: true; the input reads as it did. -/
def fnExactWidthAtUptoRow : OpenClaim := { program := "ytipkpdobbeggnaa", sum := "072d590d7bb6708b87a97368d9ed81c0684ae04a3b8a217fb8b7a1b22f420d15", func := "loop.example/g00925/laws.FnExactWidthAt", spec := "fnExactWidthAt", unfollowed := true, recurses := true, apart := false, narrowed := true }
def FnExactWidthAtUptoSaid : Prop := fnExactWidthAtUptoRow.holds Try.pinned (OpenSpec.upto fnExactWidthAtSpec)

/-- 'laws.FnExactSameNetwork', WHERE WHAT IT READS IS OF BULK AT MOST 1048576: true; the input reads as it did. -/
def fnExactSameNetworkUptoRow : OpenClaim := { program := "ytipkpdobbeggnaa", sum := "072d590d7bb6708b87a97368d9ed81c0684ae04a3b8a217fb8b7a1b22f420d15", func := "loop.example/g00925/laws.FnExactSameNetwork", spec := "fnExactSameNetwork", unfollowed := true, recurses := true, apart := false, narrowed := true }
def FnExactSameNetworkUptoSaid : Prop := fnExactSameNetworkUptoRow.holds Try.pinned (OpenSpec.upto fnExactSameNetworkSpec)

end Rows
end Go.Proofs.Ytipkpdobbeggnaa
