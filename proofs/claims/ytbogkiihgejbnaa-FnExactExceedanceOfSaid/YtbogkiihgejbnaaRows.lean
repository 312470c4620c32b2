/-
  No cell of these rows narrows 'for every input' (looked for: loops, veiled, ifaces, maps, wideKeys, modest, calm, conditions, laid).
  DERIVED. THE GIVEN ROWS OF THIS SEAT. 6 by the template 'for every input the law returns true; each argument reads behind the call as it read before'; 0 by the template 'total and deterministic' (their statements: YtbogkiihgejbnaaTotals.lean).
  GIVEN WITH THE SEED: the statements are not yours to turn. If you find one false, say at which input.
  Laid BY PROGRAM, IN A SANDBOX (cutbox-rows.mjs): the forced cells as the released guide's own fill.sh prints them over the translation 222b8c996cd928d1… (all of the seat's roots in one cut). By AI agents, Wed Nov 11 2026. No macro, syntax, notation, axiom, sorry.
-/
import Derived.Test.YtbogkiihgejbnaaChecked
import GoSem.Claim
import GoSem.ClaimJoined
import GoSem.ClaimMapViews
import Derived.JoinedTies
import Derived.KernelRfl
namespace Go.Proofs.Ytbogkiihgejbnaa
/- THE CELL 'sum', in the pinned program and in every row, IS THE sha256 OF THE DUMP (.gsa) THAT YtbogkiihgejbnaaProg.lean LOADS. Nothing in Lean hashes anything: it is a label: what it is worth is what the hold of that sum in a sandbox is worth. -/
noncomputable def Try.pinned : Pinned := { name := "ytbogkiihgejbnaa", sum := "222b8c996cd928d1560794c05c2557bf0a4635dc393f368536a86a0719a10d0e", checked := Try.checked }
namespace Rows
def none {H : Type} : Left H := { results := [], args := [] }

/-- 'laws.FnExactSameBand': WHATEVER THE INPUT: true; the input reads as it did. -/
def fnExactSameBandSpec : ChangeSpec := { name := "fnExactSameBand", fn := fun _ => fun
  | [d1, d2] => { results := [.lit (.bool true)], args := [d1, d2] }
  | _ => none }
def fnExactSameBandRow : OpenClaim := { program := "ytbogkiihgejbnaa", sum := "222b8c996cd928d1560794c05c2557bf0a4635dc393f368536a86a0719a10d0e", func := "loop.example/g00925/laws.FnExactSameBand", spec := "fnExactSameBand", apart := false }
def FnExactSameBandSaid : Prop := fnExactSameBandRow.holds Try.pinned (OpenSpec.ofChange fnExactSameBandSpec)

/-- ITS FALSE NEIGHBOUR: 'it returns false'. Refute it at one input. -/
def fnExactSameBandWrong : ChangeSpec := { name := "fnExactSameBand", fn := fun _ => fun
  | [d1, d2] => { results := [.lit (.bool false)], args := [d1, d2] }
  | _ => none }
def FnExactSameBandWrongFalsely : Prop := fnExactSameBandRow.holds Try.pinned (OpenSpec.ofChange fnExactSameBandWrong)

/-- 'laws.FnExactChangesBetween': WHATEVER THE INPUT: true; the input reads as it did. -/
def fnExactChangesBetweenSpec : ChangeSpec := { name := "fnExactChangesBetween", fn := fun _ => fun
  | [d1, d2] => { results := [.lit (.bool true)], args := [d1, d2] }
  | _ => none }
def fnExactChangesBetweenRow : OpenClaim := { program := "ytbogkiihgejbnaa", sum := "222b8c996cd928d1560794c05c2557bf0a4635dc393f368536a86a0719a10d0e", func := "loop.example/g00925/laws.FnExactChangesBetween", spec := "fnExactChangesBetween", apart := false }
def FnExactChangesBetweenSaid : Prop := fnExactChangesBetweenRow.holds Try.pinned (OpenSpec.ofChange fnExactChangesBetweenSpec)

/-- ITS FALSE NEIGHBOUR: 'it returns false'. Refute it at one input. -/
def fnExactChangesBetweenWrong : ChangeSpec := { name := "fnExactChangesBetween", fn := fun _ => fun
  | [d1, d2] => { results := [.lit (.bool false)], args := [d1, d2] }
  | _ => none }
def FnExactChangesBetweenWrongFalsely : Prop := fnExactChangesBetweenRow.holds Try.pinned (OpenSpec.ofChange fnExactChangesBetweenWrong)

/-- 'laws.FnExactValidBand': WHATEVER THE INPUT: true; the input reads as it did. -/
def fnExactValidBandSpec : ChangeSpec := { name := "fnExactValidBand", fn := fun _ => fun
  | [d] => { results := [.lit (.bool true)], args := [d] }
  | _ => none }
def fnExactValidBandRow : OpenClaim := { program := "ytbogkiihgejbnaa", sum := "222b8c996cd928d1560794c05c2557bf0a4635dc393f368536a86a0719a10d0e", func := "loop.example/g00925/laws.FnExactValidBand", spec := "fnExactValidBand", apart := false }
def FnExactValidBandSaid : Prop := fnExactValidBandRow.holds Try.pinned (OpenSpec.ofChange fnExactValidBandSpec)

/-- ITS FALSE NEIGHBOUR: 'it returns false'. Refute it at one input. -/
def fnExactValidBandWrong : ChangeSpec := { name := "fnExactValidBand", fn := fun _ => fun
  | [d] => { results := [.lit (.bool false)], args := [d] }
  | _ => none }
def FnExactValidBandWrongFalsely : Prop := fnExactValidBandRow.holds Try.pinned (OpenSpec.ofChange fnExactValidBandWrong)

/-- 'laws.FnExactChannelCount': WHATEVER THE INPUT: true; the input reads as it did. -/
def fnExactChannelCountSpec : ChangeSpec := { name := "fnExactChannelCount", fn := fun _ => fun
  | [d] => { results := [.lit (.bool true)], args := [d] }
  | _ => none }
def fnExactChannelCountRow : OpenClaim := { program := "ytbogkiihgejbnaa", sum := "222b8c996cd928d1560794c05c2557bf0a4635dc393f368536a86a0719a10d0e", func := "loop.example/g00925/laws.FnExactChannelCount", spec := "fnExactChannelCount", apart := false }
def FnExactChannelCountSaid : Prop := fnExactChannelCountRow.holds Try.pinned (OpenSpec.ofChange fnExactChannelCountSpec)

/-- ITS FALSE NEIGHBOUR: 'it returns false'. Refute it at one input. -/
def fnExactChannelCountWrong : ChangeSpec := { name := "fnExactChannelCount", fn := fun _ => fun
  | [d] => { results := [.lit (.bool false)], args := [d] }
  | _ => none }
def FnExactChannelCountWrongFalsely : Prop := fnExactChannelCountRow.holds Try.pinned (OpenSpec.ofChange fnExactChannelCountWrong)

/-- 'laws.FnExactExceedanceOf': WHATEVER THE INPUT: true; the input reads as it did. -/
def fnExactExceedanceOfSpec : ChangeSpec := { name := "fnExactExceedanceOf", fn := fun _ => fun
  | [d] => { results := [.lit (.bool true)], args := [d] }
  | _ => none }
def fnExactExceedanceOfRow : OpenClaim := { program := "ytbogkiihgejbnaa", sum := "222b8c996cd928d1560794c05c2557bf0a4635dc393f368536a86a0719a10d0e", func := "loop.example/g00925/laws.FnExactExceedanceOf", spec := "fnExactExceedanceOf", apart := false }
def FnExactExceedanceOfSaid : Prop := fnExactExceedanceOfRow.holds Try.pinned (OpenSpec.ofChange fnExactExceedanceOfSpec)

/-- ITS FALSE NEIGHBOUR: 'it returns false'. Refute it at one input. -/
def fnExactExceedanceOfWrong : ChangeSpec := { name := "fnExactExceedanceOf", fn := fun _ => fun
  | [d] => { results := [.lit (.bool false)], args := [d] }
  | _ => none }
def FnExactExceedanceOfWrongFalsely : Prop := fnExactExceedanceOfRow.holds Try.pinned (OpenSpec.ofChange fnExactExceedanceOfWrong)

/-- 'laws.FnExactParallelOutage': WHATEVER THE INPUT: true; the input reads as it did. -/
def fnExactParallelOutageSpec : ChangeSpec := { name := "fnExactParallelOutage", fn := fun _ => fun
  | [d] => { results := [.lit (.bool true)], args := [d] }
  | _ => none }
def fnExactParallelOutageRow : OpenClaim := { program := "ytbogkiihgejbnaa", sum := "222b8c996cd928d1560794c05c2557bf0a4635dc393f368536a86a0719a10d0e", func := "loop.example/g00925/laws.FnExactParallelOutage", spec := "fnExactParallelOutage", unfollowed := true, recurses := true, apart := false }
def FnExactParallelOutageSaid : Prop := fnExactParallelOutageRow.holds Try.pinned (OpenSpec.ofChange fnExactParallelOutageSpec)

/-- ITS FALSE NEIGHBOUR: 'it returns false'. Refute it at one input. -/
def fnExactParallelOutageWrong : ChangeSpec := { name := "fnExactParallelOutage", fn := fun _ => fun
  | [d] => { results := [.lit (.bool false)], args := [d] }
  | _ => none }
def FnExactParallelOutageWrongFalsely : Prop := fnExactParallelOutageRow.holds Try.pinned (OpenSpec.ofChange fnExactParallelOutageWrong)

/- THE SECOND FORM. 'bulk': how many values and letters a reading holds, each counted each time it is reached (what is shared counts as often as it is met; a slice's spare places count too). A statement '..UptoSaid' is the law's where the arguments, and the package variables that the reading takes, are together of bulk at most 1048576: NARROWER than '..Said'. Prove '..Said' where nothing that the law and all that it calls make is longer than what came in: it says more and counts as full. Else prove '..UptoSaid'. A law counts once. -/
mutual
def uptoBulk {H : Type} : DataW H → Nat
  | .lit (.string bytes) => bytes.length + 1
  | .lit _ => 1
  | .nil => 1
  | .ptr d => uptoBulk d + 1
  | .slice elems spare => uptoBulkAll elems + uptoBulkAll spare + 1
  | .agg parts => uptoBulkAll parts + 1
  | .iface _ d => uptoBulk d + 1
  | .map entries => uptoBulkEntries entries + 1
  | .held _ => 1
def uptoBulkAll {H : Type} : List (DataW H) → Nat
  | [] => 0
  | d :: r => uptoBulk d + uptoBulkAll r
def uptoBulkEntries {H : Type} : List (Lit × DataW H) → Nat
  | [] => 0
  | x :: r => uptoBulkEntry x + uptoBulkEntries r
def uptoBulkEntry {H : Type} : Lit × DataW H → Nat
  | (.string bytes, d) => bytes.length + uptoBulk d + 1
  | (_, d) => uptoBulk d + 1
 end
def uptoSmall : (H : Type) → List (DataW H) → Bool := fun _ ds => decide (uptoBulkAll ds ≤ 1048576)
def OpenSpec.upto (s : _root_.Go.ChangeSpec) : _root_.Go.OpenSpec := { _root_.Go.OpenSpec.ofChange s with cond := some uptoSmall }

/-- 'laws.FnExactSameBand', WHERE WHAT IT READS IS OF BULK AT MOST 1048576: true; the input reads as it did. -/
def fnExactSameBandUptoRow : OpenClaim := { program := "ytbogkiihgejbnaa", sum := "222b8c996cd928d1560794c05c2557bf0a4635dc393f368536a86a0719a10d0e", func := "loop.example/g00925/laws.FnExactSameBand", spec := "fnExactSameBand", apart := false, narrowed := true }
def FnExactSameBandUptoSaid : Prop := fnExactSameBandUptoRow.holds Try.pinned (OpenSpec.upto fnExactSameBandSpec)

/-- 'laws.FnExactChangesBetween', WHERE WHAT IT READS IS OF BULK AT MOST 1048576: true; the input reads as it did. -/
def fnExactChangesBetweenUptoRow : OpenClaim := { program := "ytbogkiihgejbnaa", sum := "222b8c996cd928d1560794c05c2557bf0a4635dc393f368536a86a0719a10d0e", func := "loop.example/g00925/laws.FnExactChangesBetween", spec := "fnExactChangesBetween", apart := false, narrowed := true }
def FnExactChangesBetweenUptoSaid : Prop := fnExactChangesBetweenUptoRow.holds Try.pinned (OpenSpec.upto fnExactChangesBetweenSpec)

/-- 'laws.FnExactValidBand', WHERE WHAT IT READS IS OF BULK AT MOST 1048576: true; the input reads as it did. -/
def fnExactValidBandUptoRow : OpenClaim := { program := "ytbogkiihgejbnaa", sum := "222b8c996cd928d1560794c05c2557bf0a4635dc393f368536a86a0719a10d0e", func := "loop.example/g00925/laws.FnExactValidBand", spec := "fnExactValidBand", apart := false, narrowed := true }
def FnExactValidBandUptoSaid : Prop := fnExactValidBandUptoRow.holds Try.pinned (OpenSpec.upto fnExactValidBandSpec)

/-- 'laws.FnExactChannelCount', WHERE WHAT IT READS IS OF BULK AT MOST 1048576: true; the input reads as it did. -/
def fnExactChannelCountUptoRow : OpenClaim := { program := "ytbogkiihgejbnaa", sum := "222b8c996cd928d1560794c05c2557bf0a4635dc393f368536a86a0719a10d0e", func := "loop.example/g00925/laws.FnExactChannelCount", spec := "fnExactChannelCount", apart := false, narrowed := true }
def FnExactChannelCountUptoSaid : Prop := fnExactChannelCountUptoRow.holds Try.pinned (OpenSpec.upto fnExactChannelCountSpec)

/-- 'laws.FnExactExceedanceOf', WHERE WHAT IT READS IS OF BULK AT MOST 1048576: true; the input reads as it did. -/
def fnExactExceedanceOfUptoRow : OpenClaim := { program := "ytbogkiihgejbnaa", sum := "222b8c996cd928d1560794c05c2557bf0a4635dc393f368536a86a0719a10d0e", func := "loop.example/g00925/laws.FnExactExceedanceOf", spec := "fnExactExceedanceOf", apart := false, narrowed := true }
def FnExactExceedanceOfUptoSaid : Prop := fnExactExceedanceOfUptoRow.holds Try.pinned (OpenSpec.upto fnExactExceedanceOfSpec)

/-- 'laws.FnExactParallelOutage', WHERE WHAT IT READS IS OF BULK AT MOST 1048576: true; the input reads as it did. -/
def fnExactParallelOutageUptoRow : OpenClaim := { program := "ytbogkiihgejbnaa", sum := "222b8c996cd928d1560794c05c2557bf0a4635dc393f368536a86a0719a10d0e", func := "loop.example/g00925/laws.FnExactParallelOutage", spec := "fnExactParallelOutage", unfollowed := true, recurses := true, apart := false, narrowed := true }
def FnExactParallelOutageUptoSaid : Prop := fnExactParallelOutageUptoRow.holds Try.pinned (OpenSpec.upto fnExactParallelOutageSpec)

end Rows
end Go.Proofs.Ytbogkiihgejbnaa
