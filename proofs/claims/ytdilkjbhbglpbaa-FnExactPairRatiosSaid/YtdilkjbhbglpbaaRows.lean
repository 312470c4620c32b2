/-
  No cell of these rows narrows 'for every input' (looked for: loops, veiled, ifaces, maps, wideKeys, modest, calm, conditions, laid).
  DERIVED. THE GIVEN ROWS OF THIS SEAT. 12 by the template 'for every input the law returns true; each argument reads behind the call as it read before'; 0 by the template 'total and deterministic' (their statements: YtdilkjbhbglpbaaTotals.lean).
  GIVEN WITH THE SEED: the statements are not yours to turn. If you find one false, say at which input.
  Laid BY PROGRAM, IN A SANDBOX (cutbox-rows.mjs): the forced cells as the released guide's own fill.sh prints them over the translation 2420fd79f42c6bc2… (all of the seat's roots in one cut). By AI agents, Wed Nov 11 2026. No macro, syntax, notation, axiom, sorry.
-/
import Derived.Test.YtdilkjbhbglpbaaChecked
import GoSem.Claim
import GoSem.ClaimJoined
import GoSem.ClaimMapViews
import Derived.JoinedTies
import Derived.KernelRfl
namespace Go.Proofs.Ytdilkjbhbglpbaa
/- THE CELL 'sum', in the pinned program and in every row, IS THE sha256 OF THE DUMP (.gsa) THAT YtdilkjbhbglpbaaProg.lean LOADS. Nothing in Lean hashes anything: it is a label: what it is worth is what the hold of that sum in a sandbox is worth. -/
noncomputable def Try.pinned : Pinned := { name := "ytdilkjbhbglpbaa", sum := "2420fd79f42c6bc20c37e0c350be7a88b23ca8168445a406203038751697c976", checked := Try.checked }
namespace Rows
def none {H : Type} : Left H := { results := [], args := [] }

/-- 'laws.FnExactSeriesOutage': WHATEVER THE INPUT: true; the input reads as it did. -/
def fnExactSeriesOutageSpec : ChangeSpec := { name := "fnExactSeriesOutage", fn := fun _ => fun
  | [d] => { results := [.lit (.bool true)], args := [d] }
  | _ => none }
def fnExactSeriesOutageRow : OpenClaim := { program := "ytdilkjbhbglpbaa", sum := "2420fd79f42c6bc20c37e0c350be7a88b23ca8168445a406203038751697c976", func := "loop.example/g00925/laws.FnExactSeriesOutage", spec := "fnExactSeriesOutage", unfollowed := true, recurses := true, apart := false }
def FnExactSeriesOutageSaid : Prop := fnExactSeriesOutageRow.holds Try.pinned (OpenSpec.ofChange fnExactSeriesOutageSpec)

/-- ITS FALSE NEIGHBOUR: 'it returns false'. Refute it at one input. -/
def fnExactSeriesOutageWrong : ChangeSpec := { name := "fnExactSeriesOutage", fn := fun _ => fun
  | [d] => { results := [.lit (.bool false)], args := [d] }
  | _ => none }
def FnExactSeriesOutageWrongFalsely : Prop := fnExactSeriesOutageRow.holds Try.pinned (OpenSpec.ofChange fnExactSeriesOutageWrong)

/-- 'laws.FnExactCommonPart': WHATEVER THE INPUT: true; the input reads as it did. -/
def fnExactCommonPartSpec : ChangeSpec := { name := "fnExactCommonPart", fn := fun _ => fun
  | [d1, d2] => { results := [.lit (.bool true)], args := [d1, d2] }
  | _ => none }
def fnExactCommonPartRow : OpenClaim := { program := "ytdilkjbhbglpbaa", sum := "2420fd79f42c6bc20c37e0c350be7a88b23ca8168445a406203038751697c976", func := "loop.example/g00925/laws.FnExactCommonPart", spec := "fnExactCommonPart", apart := false }
def FnExactCommonPartSaid : Prop := fnExactCommonPartRow.holds Try.pinned (OpenSpec.ofChange fnExactCommonPartSpec)

/-- ITS FALSE NEIGHBOUR: 'it returns false'. Refute it at one input. -/
def fnExactCommonPartWrong : ChangeSpec := { name := "fnExactCommonPart", fn := fun _ => fun
  | [d1, d2] => { results := [.lit (.bool false)], args := [d1, d2] }
  | _ => none }
def FnExactCommonPartWrongFalsely : Prop := fnExactCommonPartRow.holds Try.pinned (OpenSpec.ofChange fnExactCommonPartWrong)

/-- 'laws.FnExactChannelAt': WHATEVER THE INPUT: true; the input reads as it did. -/
def fnExactChannelAtSpec : ChangeSpec := { name := "fnExactChannelAt", fn := fun _ => fun
  | [d1, d2] => { results := [.lit (.bool true)], args := [d1, d2] }
  | _ => none }
def fnExactChannelAtRow : OpenClaim := { program := "ytdilkjbhbglpbaa", sum := "2420fd79f42c6bc20c37e0c350be7a88b23ca8168445a406203038751697c976", func := "loop.example/g00925/laws.FnExactChannelAt", spec := "fnExactChannelAt", apart := false }
def FnExactChannelAtSaid : Prop := fnExactChannelAtRow.holds Try.pinned (OpenSpec.ofChange fnExactChannelAtSpec)

/-- ITS FALSE NEIGHBOUR: 'it returns false'. Refute it at one input. -/
def fnExactChannelAtWrong : ChangeSpec := { name := "fnExactChannelAt", fn := fun _ => fun
  | [d1, d2] => { results := [.lit (.bool false)], args := [d1, d2] }
  | _ => none }
def FnExactChannelAtWrongFalsely : Prop := fnExactChannelAtRow.holds Try.pinned (OpenSpec.ofChange fnExactChannelAtWrong)

/-- 'laws.FnExactChannelsWithin': WHATEVER THE INPUT: true; the input reads as it did. -/
def fnExactChannelsWithinSpec : ChangeSpec := { name := "fnExactChannelsWithin", fn := fun _ => fun
  | [d1, d2, d3] => { results := [.lit (.bool true)], args := [d1, d2, d3] }
  | _ => none }
def fnExactChannelsWithinRow : OpenClaim := { program := "ytdilkjbhbglpbaa", sum := "2420fd79f42c6bc20c37e0c350be7a88b23ca8168445a406203038751697c976", func := "loop.example/g00925/laws.FnExactChannelsWithin", spec := "fnExactChannelsWithin", apart := false }
def FnExactChannelsWithinSaid : Prop := fnExactChannelsWithinRow.holds Try.pinned (OpenSpec.ofChange fnExactChannelsWithinSpec)

/-- ITS FALSE NEIGHBOUR: 'it returns false'. Refute it at one input. -/
def fnExactChannelsWithinWrong : ChangeSpec := { name := "fnExactChannelsWithin", fn := fun _ => fun
  | [d1, d2, d3] => { results := [.lit (.bool false)], args := [d1, d2, d3] }
  | _ => none }
def FnExactChannelsWithinWrongFalsely : Prop := fnExactChannelsWithinRow.holds Try.pinned (OpenSpec.ofChange fnExactChannelsWithinWrong)

/-- 'laws.FnExactValidBands': WHATEVER THE INPUT: true; the input reads as it did. -/
def fnExactValidBandsSpec : ChangeSpec := { name := "fnExactValidBands", fn := fun _ => fun
  | [d] => { results := [.lit (.bool true)], args := [d] }
  | _ => none }
def fnExactValidBandsRow : OpenClaim := { program := "ytdilkjbhbglpbaa", sum := "2420fd79f42c6bc20c37e0c350be7a88b23ca8168445a406203038751697c976", func := "loop.example/g00925/laws.FnExactValidBands", spec := "fnExactValidBands", apart := false }
def FnExactValidBandsSaid : Prop := fnExactValidBandsRow.holds Try.pinned (OpenSpec.ofChange fnExactValidBandsSpec)

/-- ITS FALSE NEIGHBOUR: 'it returns false'. Refute it at one input. -/
def fnExactValidBandsWrong : ChangeSpec := { name := "fnExactValidBands", fn := fun _ => fun
  | [d] => { results := [.lit (.bool false)], args := [d] }
  | _ => none }
def FnExactValidBandsWrongFalsely : Prop := fnExactValidBandsRow.holds Try.pinned (OpenSpec.ofChange fnExactValidBandsWrong)

/-- 'laws.FnExactBandNamed': WHATEVER THE INPUT: true; the input reads as it did. -/
def fnExactBandNamedSpec : ChangeSpec := { name := "fnExactBandNamed", fn := fun _ => fun
  | [d1, d2] => { results := [.lit (.bool true)], args := [d1, d2] }
  | _ => none }
def fnExactBandNamedRow : OpenClaim := { program := "ytdilkjbhbglpbaa", sum := "2420fd79f42c6bc20c37e0c350be7a88b23ca8168445a406203038751697c976", func := "loop.example/g00925/laws.FnExactBandNamed", spec := "fnExactBandNamed", unfollowed := true, recurses := true, apart := false }
def FnExactBandNamedSaid : Prop := fnExactBandNamedRow.holds Try.pinned (OpenSpec.ofChange fnExactBandNamedSpec)

/-- ITS FALSE NEIGHBOUR: 'it returns false'. Refute it at one input. -/
def fnExactBandNamedWrong : ChangeSpec := { name := "fnExactBandNamed", fn := fun _ => fun
  | [d1, d2] => { results := [.lit (.bool false)], args := [d1, d2] }
  | _ => none }
def FnExactBandNamedWrongFalsely : Prop := fnExactBandNamedRow.holds Try.pinned (OpenSpec.ofChange fnExactBandNamedWrong)

/-- 'laws.FnExactSameRaster': WHATEVER THE INPUT: true; the input reads as it did. -/
def fnExactSameRasterSpec : ChangeSpec := { name := "fnExactSameRaster", fn := fun _ => fun
  | [d1, d2] => { results := [.lit (.bool true)], args := [d1, d2] }
  | _ => none }
def fnExactSameRasterRow : OpenClaim := { program := "ytdilkjbhbglpbaa", sum := "2420fd79f42c6bc20c37e0c350be7a88b23ca8168445a406203038751697c976", func := "loop.example/g00925/laws.FnExactSameRaster", spec := "fnExactSameRaster", apart := false }
def FnExactSameRasterSaid : Prop := fnExactSameRasterRow.holds Try.pinned (OpenSpec.ofChange fnExactSameRasterSpec)

/-- ITS FALSE NEIGHBOUR: 'it returns false'. Refute it at one input. -/
def fnExactSameRasterWrong : ChangeSpec := { name := "fnExactSameRaster", fn := fun _ => fun
  | [d1, d2] => { results := [.lit (.bool false)], args := [d1, d2] }
  | _ => none }
def FnExactSameRasterWrongFalsely : Prop := fnExactSameRasterRow.holds Try.pinned (OpenSpec.ofChange fnExactSameRasterWrong)

/-- 'laws.FnExactValidRaster': WHATEVER THE INPUT: true; the input reads as it did. -/
def fnExactValidRasterSpec : ChangeSpec := { name := "fnExactValidRaster", fn := fun _ => fun
  | [d] => { results := [.lit (.bool true)], args := [d] }
  | _ => none }
def fnExactValidRasterRow : OpenClaim := { program := "ytdilkjbhbglpbaa", sum := "2420fd79f42c6bc20c37e0c350be7a88b23ca8168445a406203038751697c976", func := "loop.example/g00925/laws.FnExactValidRaster", spec := "fnExactValidRaster", unfollowed := true, recurses := true, apart := false }
def FnExactValidRasterSaid : Prop := fnExactValidRasterRow.holds Try.pinned (OpenSpec.ofChange fnExactValidRasterSpec)

/-- ITS FALSE NEIGHBOUR: 'it returns false'. Refute it at one input. -/
def fnExactValidRasterWrong : ChangeSpec := { name := "fnExactValidRaster", fn := fun _ => fun
  | [d] => { results := [.lit (.bool false)], args := [d] }
  | _ => none }
def FnExactValidRasterWrongFalsely : Prop := fnExactValidRasterRow.holds Try.pinned (OpenSpec.ofChange fnExactValidRasterWrong)

/-- 'laws.FnExactServerAt': WHATEVER THE INPUT: true; the input reads as it did. -/
def fnExactServerAtSpec : ChangeSpec := { name := "fnExactServerAt", fn := fun _ => fun
  | [d1, d2] => { results := [.lit (.bool true)], args := [d1, d2] }
  | _ => none }
def fnExactServerAtRow : OpenClaim := { program := "ytdilkjbhbglpbaa", sum := "2420fd79f42c6bc20c37e0c350be7a88b23ca8168445a406203038751697c976", func := "loop.example/g00925/laws.FnExactServerAt", spec := "fnExactServerAt", unfollowed := true, recurses := true, apart := false }
def FnExactServerAtSaid : Prop := fnExactServerAtRow.holds Try.pinned (OpenSpec.ofChange fnExactServerAtSpec)

/-- ITS FALSE NEIGHBOUR: 'it returns false'. Refute it at one input. -/
def fnExactServerAtWrong : ChangeSpec := { name := "fnExactServerAt", fn := fun _ => fun
  | [d1, d2] => { results := [.lit (.bool false)], args := [d1, d2] }
  | _ => none }
def FnExactServerAtWrongFalsely : Prop := fnExactServerAtRow.holds Try.pinned (OpenSpec.ofChange fnExactServerAtWrong)

/-- 'laws.FnExactValidRows': WHATEVER THE INPUT: true; the input reads as it did. -/
def fnExactValidRowsSpec : ChangeSpec := { name := "fnExactValidRows", fn := fun _ => fun
  | [d] => { results := [.lit (.bool true)], args := [d] }
  | _ => none }
def fnExactValidRowsRow : OpenClaim := { program := "ytdilkjbhbglpbaa", sum := "2420fd79f42c6bc20c37e0c350be7a88b23ca8168445a406203038751697c976", func := "loop.example/g00925/laws.FnExactValidRows", spec := "fnExactValidRows", unfollowed := true, recurses := true, apart := false }
def FnExactValidRowsSaid : Prop := fnExactValidRowsRow.holds Try.pinned (OpenSpec.ofChange fnExactValidRowsSpec)

/-- ITS FALSE NEIGHBOUR: 'it returns false'. Refute it at one input. -/
def fnExactValidRowsWrong : ChangeSpec := { name := "fnExactValidRows", fn := fun _ => fun
  | [d] => { results := [.lit (.bool false)], args := [d] }
  | _ => none }
def FnExactValidRowsWrongFalsely : Prop := fnExactValidRowsRow.holds Try.pinned (OpenSpec.ofChange fnExactValidRowsWrong)

/-- 'laws.FnExactServersOf': WHATEVER THE INPUT: true; the input reads as it did. -/
def fnExactServersOfSpec : ChangeSpec := { name := "fnExactServersOf", fn := fun _ => fun
  | [d] => { results := [.lit (.bool true)], args := [d] }
  | _ => none }
def fnExactServersOfRow : OpenClaim := { program := "ytdilkjbhbglpbaa", sum := "2420fd79f42c6bc20c37e0c350be7a88b23ca8168445a406203038751697c976", func := "loop.example/g00925/laws.FnExactServersOf", spec := "fnExactServersOf", unfollowed := true, recurses := true, apart := false }
def FnExactServersOfSaid : Prop := fnExactServersOfRow.holds Try.pinned (OpenSpec.ofChange fnExactServersOfSpec)

/-- ITS FALSE NEIGHBOUR: 'it returns false'. Refute it at one input. -/
def fnExactServersOfWrong : ChangeSpec := { name := "fnExactServersOf", fn := fun _ => fun
  | [d] => { results := [.lit (.bool false)], args := [d] }
  | _ => none }
def FnExactServersOfWrongFalsely : Prop := fnExactServersOfRow.holds Try.pinned (OpenSpec.ofChange fnExactServersOfWrong)

/-- 'laws.FnExactPairRatios': WHATEVER THE INPUT: true; the input reads as it did. -/
def fnExactPairRatiosSpec : ChangeSpec := { name := "fnExactPairRatios", fn := fun _ => fun
  | [d] => { results := [.lit (.bool true)], args := [d] }
  | _ => none }
def fnExactPairRatiosRow : OpenClaim := { program := "ytdilkjbhbglpbaa", sum := "2420fd79f42c6bc20c37e0c350be7a88b23ca8168445a406203038751697c976", func := "loop.example/g00925/laws.FnExactPairRatios", spec := "fnExactPairRatios", unfollowed := true, recurses := true, apart := false }
def FnExactPairRatiosSaid : Prop := fnExactPairRatiosRow.holds Try.pinned (OpenSpec.ofChange fnExactPairRatiosSpec)

/-- ITS FALSE NEIGHBOUR: 'it returns false'. Refute it at one input. -/
def fnExactPairRatiosWrong : ChangeSpec := { name := "fnExactPairRatios", fn := fun _ => fun
  | [d] => { results := [.lit (.bool false)], args := [d] }
  | _ => none }
def FnExactPairRatiosWrongFalsely : Prop := fnExactPairRatiosRow.holds Try.pinned (OpenSpec.ofChange fnExactPairRatiosWrong)

/- THE SECOND FORM. 'bulk': how many values and letters a reading holds, each counted each time it is reached (what is shared counts as often as it is met; a slice's spare places count too). A statement '..UptoSaid' is the law's where the arguments, and the package variables that the reading takes, are together of bulk at most 1048576: NARROWER than '..Said'. Prove '..Said' where nothing that the law and all that it calls make is longer than what came in: it says more and counts as full. Else prove '..UptoSaid'. A law counts once. -/
mutual
def uptoBulk {H : Type} : DataW H → Nat
  | .lit (.string bytes) => bytes.length + 1
  | .lit _ => 1
  | .nil => 1
  | .ptr d => uptoBulk d + 1
  | .slice elems spare => uptoBulkAll elems + uptoBulkAll spare + 1
  | .agg parts => uptoBulkAll parts + 1
  | .iface _ d => uptoBulk d + 1
  | .map entries => uptoBulkEntries entries + 1
  | .held _ => 1
def uptoBulkAll {H : Type} : List (DataW H) → Nat
  | [] => 0
  | d :: r => uptoBulk d + uptoBulkAll r
def uptoBulkEntries {H : Type} : List (Lit × DataW H) → Nat
  | [] => 0
  | x :: r => uptoBulkEntry x + uptoBulkEntries r
def uptoBulkEntry {H : Type} : Lit × DataW H → Nat
  | (.string bytes, d) => bytes.length + uptoBulk d + 1
  | (_, d) => uptoBulk d + 1
 end
def uptoSmall : (H : Type) → List (DataW H) → Bool := fun _ ds => decide (uptoBulkAll ds ≤ 1048576)
def OpenSpec.upto (s : _root_.Go.ChangeSpec) : _root_.Go.OpenSpec := { _root_.Go.OpenSpec.ofChange s with cond := some uptoSmall }

/-- 'laws.FnExactSeriesOutage', WHERE WHAT IT READS IS OF BULK AT MOST 1048576: true; the input reads as it did. -/
def fnExactSeriesOutageUptoRow : OpenClaim := { program := "ytdilkjbhbglpbaa", sum := "2420fd79f42c6bc20c37e0c350be7a88b23ca8168445a406203038751697c976", func := "loop.example/g00925/laws.FnExactSeriesOutage", spec := "fnExactSeriesOutage", unfollowed := true, recurses := true, apart := false, narrowed := true }
def FnExactSeriesOutageUptoSaid : Prop := fnExactSeriesOutageUptoRow.holds Try.pinned (OpenSpec.upto fnExactSeriesOutageSpec)

/-- 'laws.FnExactCommonPart', WHERE WHAT IT READS IS OF BULK AT MOST 1048576: true; the input reads as it did. -/
def fnExactCommonPartUptoRow : OpenClaim := { program := "ytdilkjbhbglpbaa", sum := "2420fd79f42c6bc20c37e0c350be7a88b23ca8168445a406203038751697c976", func := "loop.example/g00925/laws.FnExactCommonPart", spec := "fnExactCommonPart", apart := false, narrowed := true }
def FnExactCommonPartUptoSaid : Prop := fnExactCommonPartUptoRow.holds Try.pinned (OpenSpec.upto fnExactCommonPartSpec)

/-- 'laws.FnExactChannelAt', WHERE WHAT IT READS IS OF BULK AT MOST 1048576: true; the input reads as it did. -/
def fnExactChannelAtUptoRow : OpenClaim := { program := "ytdilkjbhbglpbaa", sum := "2420fd79f42c6bc20c37e0c350be7a88b23ca8168445a406203038751697c976", func := "loop.example/g00925/laws.FnExactChannelAt", spec := "fnExactChannelAt", apart := false, narrowed := true }
def FnExactChannelAtUptoSaid : Prop := fnExactChannelAtUptoRow.holds Try.pinned (OpenSpec.upto fnExactChannelAtSpec)

/-- 'laws.FnExactChannelsWithin', WHERE WHAT IT READS IS OF BULK AT MOST 1048576: true; the input reads as it did. -/
def fnExactChannelsWithinUptoRow : OpenClaim := { program := "ytdilkjbhbglpbaa", sum := "2420fd79f42c6bc20c37e0c350be7a88b23ca8168445a406203038751697c976", func := "loop.example/g00925/laws.FnExactChannelsWithin", spec := "fnExactChannelsWithin", apart := false, narrowed := true }
def FnExactChannelsWithinUptoSaid : Prop := fnExactChannelsWithinUptoRow.holds Try.pinned (OpenSpec.upto fnExactChannelsWithinSpec)

/-- 'laws.FnExactValidBands', WHERE WHAT IT READS IS OF BULK AT MOST 1048576: true; the input reads as it did. -/
def fnExactValidBandsUptoRow : OpenClaim := { program := "ytdilkjbhbglpbaa", sum := "2420fd79f42c6bc20c37e0c350be7a88b23ca8168445a406203038751697c976", func := "loop.example/g00925/laws.FnExactValidBands", spec := "fnExactValidBands", apart := false, narrowed := true }
def FnExactValidBandsUptoSaid : Prop := fnExactValidBandsUptoRow.holds Try.pinned (OpenSpec.upto fnExactValidBandsSpec)

/-- 'laws.FnExactBandNamed', WHERE WHAT IT READS IS OF BULK AT MOST 1048576: true; the input reads as it did. -/
def fnExactBandNamedUptoRow : OpenClaim := { program := "ytdilkjbhbglpbaa", sum := "2420fd79f42c6bc20c37e0c350be7a88b23ca8168445a406203038751697c976", func := "loop.example/g00925/laws.FnExactBandNamed", spec := "fnExactBandNamed", unfollowed := true, recurses := true, apart := false, narrowed := true }
def FnExactBandNamedUptoSaid : Prop := fnExactBandNamedUptoRow.holds Try.pinned (OpenSpec.upto fnExactBandNamedSpec)

/-- 'laws.FnExactSameRaster', WHERE WHAT IT READS IS OF BULK AT MOST 1048576: true; the input reads as it did. -/
def fnExactSameRasterUptoRow : OpenClaim := { program := "ytdilkjbhbglpbaa", sum := "2420fd79f42c6bc20c37e0c350be7a88b23ca8168445a406203038751697c976", func := "loop.example/g00925/laws.FnExactSameRaster", spec := "fnExactSameRaster", apart := false, narrowed := true }
def FnExactSameRasterUptoSaid : Prop := fnExactSameRasterUptoRow.holds Try.pinned (OpenSpec.upto fnExactSameRasterSpec)

/-- 'laws.FnExactValidRaster', WHERE WHAT IT READS IS OF BULK AT MOST 1048576: true; the input reads as it did. -/
def fnExactValidRasterUptoRow : OpenClaim := { program := "ytdilkjbhbglpbaa", sum := "2420fd79f42c6bc20c37e0c350be7a88b23ca8168445a406203038751697c976", func := "loop.example/g00925/laws.FnExactValidRaster", spec := "fnExactValidRaster", unfollowed := true, recurses := true, apart := false, narrowed := true }
def FnExactValidRasterUptoSaid : Prop := fnExactValidRasterUptoRow.holds Try.pinned (OpenSpec.upto fnExactValidRasterSpec)

/-- 'laws.FnExactServerAt', WHERE WHAT IT READS IS OF BULK AT MOST 1048576: true; the input reads as it did. -/
def fnExactServerAtUptoRow : OpenClaim := { program := "ytdilkjbhbglpbaa", sum := "2420fd79f42c6bc20c37e0c350be7a88b23ca8168445a406203038751697c976", func := "loop.example/g00925/laws.FnExactServerAt", spec := "fnExactServerAt", unfollowed := true, recurses := true, apart := false, narrowed := true }
def FnExactServerAtUptoSaid : Prop := fnExactServerAtUptoRow.holds Try.pinned (OpenSpec.upto fnExactServerAtSpec)

/-- 'laws.FnExactValidRows', WHERE WHAT IT READS IS OF BULK AT MOST 1048576: true; the input reads as it did. -/
def fnExactValidRowsUptoRow : OpenClaim := { program := "ytdilkjbhbglpbaa", sum := "2420fd79f42c6bc20c37e0c350be7a88b23ca8168445a406203038751697c976", func := "loop.example/g00925/laws.FnExactValidRows", spec := "fnExactValidRows", unfollowed := true, recurses := true, apart := false, narrowed := true }
def FnExactValidRowsUptoSaid : Prop := fnExactValidRowsUptoRow.holds Try.pinned (OpenSpec.upto fnExactValidRowsSpec)

/-- 'laws.FnExactServersOf', WHERE WHAT IT READS IS OF BULK AT MOST 1048576: true; the input reads as it did. -/
def fnExactServersOfUptoRow : OpenClaim := { program := "ytdilkjbhbglpbaa", sum := "2420fd79f42c6bc20c37e0c350be7a88b23ca8168445a406203038751697c976", func := "loop.example/g00925/laws.FnExactServersOf", spec := "fnExactServersOf", unfollowed := true, recurses := true, apart := false, narrowed := true }
def FnExactServersOfUptoSaid : Prop := fnExactServersOfUptoRow.holds Try.pinned (OpenSpec.upto fnExactServersOfSpec)

/-- 'laws.FnExactPairRatios', WHERE WHAT IT READS IS OF BULK AT MOST 1048576: true; the input reads as it did. -/
def fnExactPairRatiosUptoRow : OpenClaim := { program := "ytdilkjbhbglpbaa", sum := "2420fd79f42c6bc20c37e0c350be7a88b23ca8168445a406203038751697c976", func := "loop.example/g00925/laws.FnExactPairRatios", spec := "fnExactPairRatios", unfollowed := true, recurses := true, apart := false, narrowed := true }
def FnExactPairRatiosUptoSaid : Prop := fnExactPairRatiosUptoRow.holds Try.pinned (OpenSpec.upto fnExactPairRatiosSpec)

end Rows
end Go.Proofs.Ytdilkjbhbglpbaa
