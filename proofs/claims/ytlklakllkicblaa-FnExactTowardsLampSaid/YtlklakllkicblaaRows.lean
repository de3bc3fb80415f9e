/-
  No cell of these rows narrows 'for every input' (looked for: loops, veiled, ifaces, maps, wideKeys, modest, calm, conditions, laid).
  DERIVED. THE GIVEN ROWS OF THIS SEAT. 12 by the template 'for every input the law returns true; each argument reads behind the call as it read before'; 0 by the template 'total and deterministic' (their statements: YtlklakllkicblaaTotals.lean).
  GIVEN WITH THE SEED: the statements are not yours to turn. If you find one false, say at which input.
  Laid BY PROGRAM, IN A SANDBOX (cutbox-rows.mjs): the forced cells as the released guide's own fill.sh prints them over the translation eaa952b62b5d83b2… (all of the seat's roots in one cut). By AI agents, Wed Nov 11 2026. No macro, syntax, notation, axiom, sorry.
-/
import Derived.Test.YtlklakllkicblaaChecked
import GoSem.Claim
import GoSem.ClaimJoined
import GoSem.ClaimMapViews
import Derived.JoinedTies
import Derived.KernelRfl
namespace Go.Proofs.Ytlklakllkicblaa
/- THE CELL 'sum', in the pinned program and in every row, IS THE sha256 OF THE DUMP (.gsa) THAT YtlklakllkicblaaProg.lean LOADS. Nothing in Lean hashes anything: it is a label: what it is worth is what the hold of that sum in a sandbox is worth. -/
noncomputable def Try.pinned : Pinned := { name := "ytlklakllkicblaa", sum := "eaa952b62b5d83b2cf5fa470db1f209feedb981cd8c238776e51c29ad646a661", checked := Try.checked }
namespace Rows
def none {H : Type} : Left H := { results := [], args := [] }

/-- 'laws.FnExactMeetSpots': WHATEVER THE INPUT: true; the input reads as it did. -/
def fnExactMeetSpotsSpec : ChangeSpec := { name := "fnExactMeetSpots", fn := fun _ => fun
  | [d1, d2] => { results := [.lit (.bool true)], args := [d1, d2] }
  | _ => none }
def fnExactMeetSpotsRow : OpenClaim := { program := "ytlklakllkicblaa", sum := "eaa952b62b5d83b2cf5fa470db1f209feedb981cd8c238776e51c29ad646a661", func := "loop.example/g01249/laws.FnExactMeetSpots", spec := "fnExactMeetSpots", inPlace := ["math.Float64bits", "math.Float64frombits"], unfollowed := true, recurses := true, apart := false }
def FnExactMeetSpotsSaid : Prop := fnExactMeetSpotsRow.holds Try.pinned (OpenSpec.ofChange fnExactMeetSpotsSpec)

/-- ITS FALSE NEIGHBOUR: 'it returns false'. Refute it at one input. -/
def fnExactMeetSpotsWrong : ChangeSpec := { name := "fnExactMeetSpots", fn := fun _ => fun
  | [d1, d2] => { results := [.lit (.bool false)], args := [d1, d2] }
  | _ => none }
def FnExactMeetSpotsWrongFalsely : Prop := fnExactMeetSpotsRow.holds Try.pinned (OpenSpec.ofChange fnExactMeetSpotsWrong)

/-- 'laws.FnExactLineThrough': WHATEVER THE INPUT: true; the input reads as it did. -/
def fnExactLineThroughSpec : ChangeSpec := { name := "fnExactLineThrough", fn := fun _ => fun
  | [d1, d2] => { results := [.lit (.bool true)], args := [d1, d2] }
  | _ => none }
def fnExactLineThroughRow : OpenClaim := { program := "ytlklakllkicblaa", sum := "eaa952b62b5d83b2cf5fa470db1f209feedb981cd8c238776e51c29ad646a661", func := "loop.example/g01249/laws.FnExactLineThrough", spec := "fnExactLineThrough", inPlace := ["math.Float64bits", "math.Float64frombits"], unfollowed := true, recurses := true, apart := false }
def FnExactLineThroughSaid : Prop := fnExactLineThroughRow.holds Try.pinned (OpenSpec.ofChange fnExactLineThroughSpec)

/-- ITS FALSE NEIGHBOUR: 'it returns false'. Refute it at one input. -/
def fnExactLineThroughWrong : ChangeSpec := { name := "fnExactLineThrough", fn := fun _ => fun
  | [d1, d2] => { results := [.lit (.bool false)], args := [d1, d2] }
  | _ => none }
def FnExactLineThroughWrongFalsely : Prop := fnExactLineThroughRow.holds Try.pinned (OpenSpec.ofChange fnExactLineThroughWrong)

/-- 'laws.FnExactCrossRatio': WHATEVER THE INPUT: true; the input reads as it did. -/
def fnExactCrossRatioSpec : ChangeSpec := { name := "fnExactCrossRatio", fn := fun _ => fun
  | [d1, d2, d3, d4] => { results := [.lit (.bool true)], args := [d1, d2, d3, d4] }
  | _ => none }
def fnExactCrossRatioRow : OpenClaim := { program := "ytlklakllkicblaa", sum := "eaa952b62b5d83b2cf5fa470db1f209feedb981cd8c238776e51c29ad646a661", func := "loop.example/g01249/laws.FnExactCrossRatio", spec := "fnExactCrossRatio", inPlace := ["math.Float64bits", "math.Float64frombits"], unfollowed := true, recurses := true, apart := false }
def FnExactCrossRatioSaid : Prop := fnExactCrossRatioRow.holds Try.pinned (OpenSpec.ofChange fnExactCrossRatioSpec)

/-- ITS FALSE NEIGHBOUR: 'it returns false'. Refute it at one input. -/
def fnExactCrossRatioWrong : ChangeSpec := { name := "fnExactCrossRatio", fn := fun _ => fun
  | [d1, d2, d3, d4] => { results := [.lit (.bool false)], args := [d1, d2, d3, d4] }
  | _ => none }
def FnExactCrossRatioWrongFalsely : Prop := fnExactCrossRatioRow.holds Try.pinned (OpenSpec.ofChange fnExactCrossRatioWrong)

/-- 'laws.FnExactMeasureFrom': WHATEVER THE INPUT: true; the input reads as it did. -/
def fnExactMeasureFromSpec : ChangeSpec := { name := "fnExactMeasureFrom", fn := fun _ => fun
  | [d1, d2, d3, d4, d5] => { results := [.lit (.bool true)], args := [d1, d2, d3, d4, d5] }
  | _ => none }
def fnExactMeasureFromRow : OpenClaim := { program := "ytlklakllkicblaa", sum := "eaa952b62b5d83b2cf5fa470db1f209feedb981cd8c238776e51c29ad646a661", func := "loop.example/g01249/laws.FnExactMeasureFrom", spec := "fnExactMeasureFrom", inPlace := ["math.Float64bits", "math.Float64frombits"], unfollowed := true, recurses := true, apart := false }
def FnExactMeasureFromSaid : Prop := fnExactMeasureFromRow.holds Try.pinned (OpenSpec.ofChange fnExactMeasureFromSpec)

/-- ITS FALSE NEIGHBOUR: 'it returns false'. Refute it at one input. -/
def fnExactMeasureFromWrong : ChangeSpec := { name := "fnExactMeasureFrom", fn := fun _ => fun
  | [d1, d2, d3, d4, d5] => { results := [.lit (.bool false)], args := [d1, d2, d3, d4, d5] }
  | _ => none }
def FnExactMeasureFromWrongFalsely : Prop := fnExactMeasureFromRow.holds Try.pinned (OpenSpec.ofChange fnExactMeasureFromWrong)

/-- 'laws.FnExactAreaOfLoop': WHATEVER THE INPUT: true; the input reads as it did. -/
def fnExactAreaOfLoopSpec : ChangeSpec := { name := "fnExactAreaOfLoop", fn := fun _ => fun
  | [d] => { results := [.lit (.bool true)], args := [d] }
  | _ => none }
def fnExactAreaOfLoopRow : OpenClaim := { program := "ytlklakllkicblaa", sum := "eaa952b62b5d83b2cf5fa470db1f209feedb981cd8c238776e51c29ad646a661", func := "loop.example/g01249/laws.FnExactAreaOfLoop", spec := "fnExactAreaOfLoop", unfollowed := true, recurses := true, apart := false }
def FnExactAreaOfLoopSaid : Prop := fnExactAreaOfLoopRow.holds Try.pinned (OpenSpec.ofChange fnExactAreaOfLoopSpec)

/-- ITS FALSE NEIGHBOUR: 'it returns false'. Refute it at one input. -/
def fnExactAreaOfLoopWrong : ChangeSpec := { name := "fnExactAreaOfLoop", fn := fun _ => fun
  | [d] => { results := [.lit (.bool false)], args := [d] }
  | _ => none }
def FnExactAreaOfLoopWrongFalsely : Prop := fnExactAreaOfLoopRow.holds Try.pinned (OpenSpec.ofChange fnExactAreaOfLoopWrong)

/-- 'laws.FnExactStretchAt': WHATEVER THE INPUT: true; the input reads as it did. -/
def fnExactStretchAtSpec : ChangeSpec := { name := "fnExactStretchAt", fn := fun _ => fun
  | [d1, d2] => { results := [.lit (.bool true)], args := [d1, d2] }
  | _ => none }
def fnExactStretchAtRow : OpenClaim := { program := "ytlklakllkicblaa", sum := "eaa952b62b5d83b2cf5fa470db1f209feedb981cd8c238776e51c29ad646a661", func := "loop.example/g01249/laws.FnExactStretchAt", spec := "fnExactStretchAt", inPlace := ["math.Float64bits", "math.Float64frombits"], unfollowed := true, recurses := true, apart := false }
def FnExactStretchAtSaid : Prop := fnExactStretchAtRow.holds Try.pinned (OpenSpec.ofChange fnExactStretchAtSpec)

/-- ITS FALSE NEIGHBOUR: 'it returns false'. Refute it at one input. -/
def fnExactStretchAtWrong : ChangeSpec := { name := "fnExactStretchAt", fn := fun _ => fun
  | [d1, d2] => { results := [.lit (.bool false)], args := [d1, d2] }
  | _ => none }
def FnExactStretchAtWrongFalsely : Prop := fnExactStretchAtRow.holds Try.pinned (OpenSpec.ofChange fnExactStretchAtWrong)

/-- 'laws.FnExactValidLamp': WHATEVER THE INPUT: true; the input reads as it did. -/
def fnExactValidLampSpec : ChangeSpec := { name := "fnExactValidLamp", fn := fun _ => fun
  | [d] => { results := [.lit (.bool true)], args := [d] }
  | _ => none }
def fnExactValidLampRow : OpenClaim := { program := "ytlklakllkicblaa", sum := "eaa952b62b5d83b2cf5fa470db1f209feedb981cd8c238776e51c29ad646a661", func := "loop.example/g01249/laws.FnExactValidLamp", spec := "fnExactValidLamp", inPlace := ["math.sqrt"], unfollowed := true, recurses := true, apart := false }
def FnExactValidLampSaid : Prop := fnExactValidLampRow.holds Try.pinned (OpenSpec.ofChange fnExactValidLampSpec)

/-- ITS FALSE NEIGHBOUR: 'it returns false'. Refute it at one input. -/
def fnExactValidLampWrong : ChangeSpec := { name := "fnExactValidLamp", fn := fun _ => fun
  | [d] => { results := [.lit (.bool false)], args := [d] }
  | _ => none }
def FnExactValidLampWrongFalsely : Prop := fnExactValidLampRow.holds Try.pinned (OpenSpec.ofChange fnExactValidLampWrong)

/-- 'laws.FnExactScaledMap': WHATEVER THE INPUT: true; the input reads as it did. -/
def fnExactScaledMapSpec : ChangeSpec := { name := "fnExactScaledMap", fn := fun _ => fun
  | [d] => { results := [.lit (.bool true)], args := [d] }
  | _ => none }
def fnExactScaledMapRow : OpenClaim := { program := "ytlklakllkicblaa", sum := "eaa952b62b5d83b2cf5fa470db1f209feedb981cd8c238776e51c29ad646a661", func := "loop.example/g01249/laws.FnExactScaledMap", spec := "fnExactScaledMap", inPlace := ["math.Float64bits", "math.Float64frombits"], unfollowed := true, recurses := true, apart := false }
def FnExactScaledMapSaid : Prop := fnExactScaledMapRow.holds Try.pinned (OpenSpec.ofChange fnExactScaledMapSpec)

/-- ITS FALSE NEIGHBOUR: 'it returns false'. Refute it at one input. -/
def fnExactScaledMapWrong : ChangeSpec := { name := "fnExactScaledMap", fn := fun _ => fun
  | [d] => { results := [.lit (.bool false)], args := [d] }
  | _ => none }
def FnExactScaledMapWrongFalsely : Prop := fnExactScaledMapRow.holds Try.pinned (OpenSpec.ofChange fnExactScaledMapWrong)

/-- 'laws.FnExactApplyMap': WHATEVER THE INPUT: true; the input reads as it did. -/
def fnExactApplyMapSpec : ChangeSpec := { name := "fnExactApplyMap", fn := fun _ => fun
  | [d1, d2] => { results := [.lit (.bool true)], args := [d1, d2] }
  | _ => none }
def fnExactApplyMapRow : OpenClaim := { program := "ytlklakllkicblaa", sum := "eaa952b62b5d83b2cf5fa470db1f209feedb981cd8c238776e51c29ad646a661", func := "loop.example/g01249/laws.FnExactApplyMap", spec := "fnExactApplyMap", inPlace := ["math.Float64bits", "math.Float64frombits"], unfollowed := true, recurses := true, apart := false }
def FnExactApplyMapSaid : Prop := fnExactApplyMapRow.holds Try.pinned (OpenSpec.ofChange fnExactApplyMapSpec)

/-- ITS FALSE NEIGHBOUR: 'it returns false'. Refute it at one input. -/
def fnExactApplyMapWrong : ChangeSpec := { name := "fnExactApplyMap", fn := fun _ => fun
  | [d1, d2] => { results := [.lit (.bool false)], args := [d1, d2] }
  | _ => none }
def FnExactApplyMapWrongFalsely : Prop := fnExactApplyMapRow.holds Try.pinned (OpenSpec.ofChange fnExactApplyMapWrong)

/-- 'laws.FnExactInvertMap': WHATEVER THE INPUT: true; the input reads as it did. -/
def fnExactInvertMapSpec : ChangeSpec := { name := "fnExactInvertMap", fn := fun _ => fun
  | [d] => { results := [.lit (.bool true)], args := [d] }
  | _ => none }
def fnExactInvertMapRow : OpenClaim := { program := "ytlklakllkicblaa", sum := "eaa952b62b5d83b2cf5fa470db1f209feedb981cd8c238776e51c29ad646a661", func := "loop.example/g01249/laws.FnExactInvertMap", spec := "fnExactInvertMap", inPlace := ["math.Float64bits", "math.Float64frombits"], unfollowed := true, recurses := true, apart := false }
def FnExactInvertMapSaid : Prop := fnExactInvertMapRow.holds Try.pinned (OpenSpec.ofChange fnExactInvertMapSpec)

/-- ITS FALSE NEIGHBOUR: 'it returns false'. Refute it at one input. -/
def fnExactInvertMapWrong : ChangeSpec := { name := "fnExactInvertMap", fn := fun _ => fun
  | [d] => { results := [.lit (.bool false)], args := [d] }
  | _ => none }
def FnExactInvertMapWrongFalsely : Prop := fnExactInvertMapRow.holds Try.pinned (OpenSpec.ofChange fnExactInvertMapWrong)

/-- 'laws.FnExactComposeMaps': WHATEVER THE INPUT: true; the input reads as it did. -/
def fnExactComposeMapsSpec : ChangeSpec := { name := "fnExactComposeMaps", fn := fun _ => fun
  | [d1, d2] => { results := [.lit (.bool true)], args := [d1, d2] }
  | _ => none }
def fnExactComposeMapsRow : OpenClaim := { program := "ytlklakllkicblaa", sum := "eaa952b62b5d83b2cf5fa470db1f209feedb981cd8c238776e51c29ad646a661", func := "loop.example/g01249/laws.FnExactComposeMaps", spec := "fnExactComposeMaps", inPlace := ["math.Float64bits", "math.Float64frombits"], unfollowed := true, recurses := true, apart := false }
def FnExactComposeMapsSaid : Prop := fnExactComposeMapsRow.holds Try.pinned (OpenSpec.ofChange fnExactComposeMapsSpec)

/-- ITS FALSE NEIGHBOUR: 'it returns false'. Refute it at one input. -/
def fnExactComposeMapsWrong : ChangeSpec := { name := "fnExactComposeMaps", fn := fun _ => fun
  | [d1, d2] => { results := [.lit (.bool false)], args := [d1, d2] }
  | _ => none }
def FnExactComposeMapsWrongFalsely : Prop := fnExactComposeMapsRow.holds Try.pinned (OpenSpec.ofChange fnExactComposeMapsWrong)

/-- 'laws.FnExactTowardsLamp': WHATEVER THE INPUT: true; the input reads as it did. -/
def fnExactTowardsLampSpec : ChangeSpec := { name := "fnExactTowardsLamp", fn := fun _ => fun
  | [d1, d2] => { results := [.lit (.bool true)], args := [d1, d2] }
  | _ => none }
def fnExactTowardsLampRow : OpenClaim := { program := "ytlklakllkicblaa", sum := "eaa952b62b5d83b2cf5fa470db1f209feedb981cd8c238776e51c29ad646a661", func := "loop.example/g01249/laws.FnExactTowardsLamp", spec := "fnExactTowardsLamp", inPlace := ["math.sqrt"], unfollowed := true, recurses := true, apart := false }
def FnExactTowardsLampSaid : Prop := fnExactTowardsLampRow.holds Try.pinned (OpenSpec.ofChange fnExactTowardsLampSpec)

/-- ITS FALSE NEIGHBOUR: 'it returns false'. Refute it at one input. -/
def fnExactTowardsLampWrong : ChangeSpec := { name := "fnExactTowardsLamp", fn := fun _ => fun
  | [d1, d2] => { results := [.lit (.bool false)], args := [d1, d2] }
  | _ => none }
def FnExactTowardsLampWrongFalsely : Prop := fnExactTowardsLampRow.holds Try.pinned (OpenSpec.ofChange fnExactTowardsLampWrong)

/- THE SECOND FORM. 'bulk': how many values and letters a reading holds, each counted each time it is reached (what is shared counts as often as it is met; a slice's spare places count too). A statement '..UptoSaid' is the law's where the arguments, and the package variables that the reading takes, are together of bulk at most 1048576: NARROWER than '..Said'. Prove '..Said' where nothing that the law and all that it calls make is longer than what came in: it says more and counts as full. Else prove '..UptoSaid'. A law counts once. -/
mutual
def uptoBulk {H : Type} : DataW H → Nat
  | .lit (.string bytes) => bytes.length + 1
  | .lit _ => 1
  | .nil => 1
  | .ptr d => uptoBulk d + 1
  | .slice elems spare => uptoBulkAll elems + uptoBulkAll spare + 1
  | .agg parts => uptoBulkAll parts + 1
  | .iface _ d => uptoBulk d + 1
  | .map entries => uptoBulkEntries entries + 1
  | .held _ => 1
def uptoBulkAll {H : Type} : List (DataW H) → Nat
  | [] => 0
  | d :: r => uptoBulk d + uptoBulkAll r
def uptoBulkEntries {H : Type} : List (Lit × DataW H) → Nat
  | [] => 0
  | x :: r => uptoBulkEntry x + uptoBulkEntries r
def uptoBulkEntry {H : Type} : Lit × DataW H → Nat
  | (.string bytes, d) => bytes.length + uptoBulk d + 1
  | (_, d) => uptoBulk d + 1
 end
def uptoSmall : (H : Type) → List (DataW H) → Bool := fun _ ds => decide (uptoBulkAll ds ≤ 1048576)
def OpenSpec.upto (s : _root_.Go.ChangeSpec) : _root_.Go.OpenSpec := { _root_.Go.OpenSpec.ofChange s with cond := some uptoSmall }

/-- 'laws.FnExactMeetSpots', WHERE WHAT IT READS IS OF BULK AT MOST 1048576: true; the input reads as it did. -/
def fnExactMeetSpotsUptoRow : OpenClaim := { program := "ytlklakllkicblaa", sum := "eaa952b62b5d83b2cf5fa470db1f209feedb981cd8c238776e51c29ad646a661", func := "loop.example/g01249/laws.FnExactMeetSpots", spec := "fnExactMeetSpots", inPlace := ["math.Float64bits", "math.Float64frombits"], unfollowed := true, recurses := true, apart := false, narrowed := true }
def FnExactMeetSpotsUptoSaid : Prop := fnExactMeetSpotsUptoRow.holds Try.pinned (OpenSpec.upto fnExactMeetSpotsSpec)

/-- 'laws.FnExactLineThrough', WHERE WHAT IT READS IS OF BULK AT MOST 1048576: true; the input reads as it did. -/
def fnExactLineThroughUptoRow : OpenClaim := { program := "ytlklakllkicblaa", sum := "eaa952b62b5d83b2cf5fa470db1f209feedb981cd8c238776e51c29ad646a661", func := "loop.example/g01249/laws.FnExactLineThrough", spec := "fnExactLineThrough", inPlace := ["math.Float64bits", "math.Float64frombits"], unfollowed := true, recurses := true, apart := false, narrowed := true }
def FnExactLineThroughUptoSaid : Prop := fnExactLineThroughUptoRow.holds Try.pinned (OpenSpec.upto fnExactLineThroughSpec)

/-- 'laws.FnExactCrossRatio', WHERE WHAT IT READS IS OF BULK AT MOST 1048576: true; the input reads as it did. -/
def fnExactCrossRatioUptoRow : OpenClaim := { program := "ytlklakllkicblaa", sum := "eaa952b62b5d83b2cf5fa470db1f209feedb981cd8c238776e51c29ad646a661", func := "loop.example/g01249/laws.FnExactCrossRatio", spec := "fnExactCrossRatio", inPlace := ["math.Float64bits", "math.Float64frombits"], unfollowed := true, recurses := true, apart := false, narrowed := true }
def FnExactCrossRatioUptoSaid : Prop := fnExactCrossRatioUptoRow.holds Try.pinned (OpenSpec.upto fnExactCrossRatioSpec)

/-- 'laws.FnExactMeasureFrom', WHERE WHAT IT READS IS OF BULK AT MOST 1048576: true; the input reads as it did. -/
def fnExactMeasureFromUptoRow : OpenClaim := { program := "ytlklakllkicblaa", sum := "eaa952b62b5d83b2cf5fa470db1f209feedb981cd8c238776e51c29ad646a661", func := "loop.example/g01249/laws.FnExactMeasureFrom", spec := "fnExactMeasureFrom", inPlace := ["math.Float64bits", "math.Float64frombits"], unfollowed := true, recurses := true, apart := false, narrowed := true }
def FnExactMeasureFromUptoSaid : Prop := fnExactMeasureFromUptoRow.holds Try.pinned (OpenSpec.upto fnExactMeasureFromSpec)

/-- 'laws.FnExactAreaOfLoop', WHERE WHAT IT READS IS OF BULK AT MOST 1048576: true; the input reads as it did. -/
def fnExactAreaOfLoopUptoRow : OpenClaim := { program := "ytlklakllkicblaa", sum := "eaa952b62b5d83b2cf5fa470db1f209feedb981cd8c238776e51c29ad646a661", func := "loop.example/g01249/laws.FnExactAreaOfLoop", spec := "fnExactAreaOfLoop", unfollowed := true, recurses := true, apart := false, narrowed := true }
def FnExactAreaOfLoopUptoSaid : Prop := fnExactAreaOfLoopUptoRow.holds Try.pinned (OpenSpec.upto fnExactAreaOfLoopSpec)

/-- 'laws.FnExactStretchAt', WHERE WHAT IT READS IS OF BULK AT MOST 1048576: true; the input reads as it did. -/
def fnExactStretchAtUptoRow : OpenClaim := { program := "ytlklakllkicblaa", sum := "eaa952b62b5d83b2cf5fa470db1f209feedb981cd8c238776e51c29ad646a661", func := "loop.example/g01249/laws.FnExactStretchAt", spec := "fnExactStretchAt", inPlace := ["math.Float64bits", "math.Float64frombits"], unfollowed := true, recurses := true, apart := false, narrowed := true }
def FnExactStretchAtUptoSaid : Prop := fnExactStretchAtUptoRow.holds Try.pinned (OpenSpec.upto fnExactStretchAtSpec)

/-- 'laws.FnExactValidLamp', WHERE WHAT IT READS IS OF BULK AT MOST 1048576: true; the input reads as it did. -/
def fnExactValidLampUptoRow : OpenClaim := { program := "ytlklakllkicblaa", sum := "eaa952b62b5d83b2cf5fa470db1f209feedb981cd8c238776e51c29ad646a661", func := "loop.example/g01249/laws.FnExactValidLamp", spec := "fnExactValidLamp", inPlace := ["math.sqrt"], unfollowed := true, recurses := true, apart := false, narrowed := true }
def FnExactValidLampUptoSaid : Prop := fnExactValidLampUptoRow.holds Try.pinned (OpenSpec.upto fnExactValidLampSpec)

/-- 'laws.FnExactScaledMap', WHERE WHAT IT READS IS OF BULK AT MOST 1048576: true; the input reads as it did. -/
def fnExactScaledMapUptoRow : OpenClaim := { program := "ytlklakllkicblaa", sum := "eaa952b62b5d83b2cf5fa470db1f209feedb981cd8c238776e51c29ad646a661", func := "loop.example/g01249/laws.FnExactScaledMap", spec := "fnExactScaledMap", inPlace := ["math.Float64bits", "math.Float64frombits"], unfollowed := true, recurses := true, apart := false, narrowed := true }
def FnExactScaledMapUptoSaid : Prop := fnExactScaledMapUptoRow.holds Try.pinned (OpenSpec.upto fnExactScaledMapSpec)

/-- 'laws.FnExactApplyMap', WHERE WHAT IT READS IS OF BULK AT MOST 1048576: true; the input reads as it did. -/
def fnExactApplyMapUptoRow : OpenClaim := { program := "ytlklakllkicblaa", sum := "eaa952b62b5d83b2cf5fa470db1f209feedb981cd8c238776e51c29ad646a661", func := "loop.example/g01249/laws.FnExactApplyMap", spec := "fnExactApplyMap", inPlace := ["math.Float64bits", "math.Float64frombits"], unfollowed := true, recurses := true, apart := false, narrowed := true }
def FnExactApplyMapUptoSaid : Prop := fnExactApplyMapUptoRow.holds Try.pinned (OpenSpec.upto fnExactApplyMapSpec)

/-- 'laws.FnExactInvertMap', WHERE WHAT IT READS IS OF BULK AT MOST 1048576: true; the input reads as it did. -/
def fnExactInvertMapUptoRow : OpenClaim := { program := "ytlklakllkicblaa", sum := "eaa952b62b5d83b2cf5fa470db1f209feedb981cd8c238776e51c29ad646a661", func := "loop.example/g01249/laws.FnExactInvertMap", spec := "fnExactInvertMap", inPlace := ["math.Float64bits", "math.Float64frombits"], unfollowed := true, recurses := true, apart := false, narrowed := true }
def FnExactInvertMapUptoSaid : Prop := fnExactInvertMapUptoRow.holds Try.pinned (OpenSpec.upto fnExactInvertMapSpec)

/-- 'laws.FnExactComposeMaps', WHERE WHAT IT READS IS OF BULK AT MOST 1048576: true; the input reads as it did. -/
def fnExactComposeMapsUptoRow : OpenClaim := { program := "ytlklakllkicblaa", sum := "eaa952b62b5d83b2cf5fa470db1f209feedb981cd8c238776e51c29ad646a661", func := "loop.example/g01249/laws.FnExactComposeMaps", spec := "fnExactComposeMaps", inPlace := ["math.Float64bits", "math.Float64frombits"], unfollowed := true, recurses := true, apart := false, narrowed := true }
def FnExactComposeMapsUptoSaid : Prop := fnExactComposeMapsUptoRow.holds Try.pinned (OpenSpec.upto fnExactComposeMapsSpec)

/-- 'laws.FnExactTowardsLamp', WHERE WHAT IT READS IS OF BULK AT MOST 1048576: true; the input reads as it did. -/
def fnExactTowardsLampUptoRow : OpenClaim := { program := "ytlklakllkicblaa", sum := "eaa952b62b5d83b2cf5fa470db1f209feedb981cd8c238776e51c29ad646a661", func := "loop.example/g01249/laws.FnExactTowardsLamp", spec := "fnExactTowardsLamp", inPlace := ["math.sqrt"], unfollowed := true, recurses := true, apart := false, narrowed := true }
def FnExactTowardsLampUptoSaid : Prop := fnExactTowardsLampUptoRow.holds Try.pinned (OpenSpec.upto fnExactTowardsLampSpec)

end Rows
end Go.Proofs.Ytlklakllkicblaa
