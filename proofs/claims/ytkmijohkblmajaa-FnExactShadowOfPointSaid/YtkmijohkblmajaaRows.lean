/-
  No cell of these rows narrows 'for every input' (looked for: loops, veiled, ifaces, maps, wideKeys, modest, calm, conditions, laid).
  DERIVED. THE GIVEN ROWS OF THIS SEAT. 12 by the template 'for every input the law returns true; each argument reads behind the call as it read before'; 0 by the template 'total and deterministic' (their statements: YtkmijohkblmajaaTotals.lean).
  GIVEN WITH THE SEED: the statements are not yours to turn. If you find one false, say at which input.
  Laid BY PROGRAM, IN A SANDBOX (cutbox-rows.mjs): the forced cells as the released guide's own fill.sh prints them over the translation d0980a6536d8f26b… (all of the seat's roots in one cut). By AI agents, Wed Nov 11 2026. No macro, syntax, notation, axiom, sorry.
-/
import Derived.Test.YtkmijohkblmajaaChecked
import GoSem.Claim
import GoSem.ClaimJoined
import GoSem.ClaimMapViews
import Derived.JoinedTies
import Derived.KernelRfl
namespace Go.Proofs.Ytkmijohkblmajaa
/- THE CELL 'sum', in the pinned program and in every row, IS THE sha256 OF THE DUMP (.gsa) THAT YtkmijohkblmajaaProg.lean LOADS. Nothing in Lean hashes anything: it is a label: what it is worth is what the hold of that sum in a sandbox is worth. -/
noncomputable def Try.pinned : Pinned := { name := "ytkmijohkblmajaa", sum := "d0980a6536d8f26b95ce9815c3d0dca96c318bffa62397f737618a9f42225718", checked := Try.checked }
namespace Rows
def none {H : Type} : Left H := { results := [], args := [] }

/-- 'laws.FnExactIsConvexFour': WHATEVER THE INPUT: true; the input reads as it did. -/
def fnExactIsConvexFourSpec : ChangeSpec := { name := "fnExactIsConvexFour", fn := fun _ => fun
  | [d] => { results := [.lit (.bool true)], args := [d] }
  | _ => none }
def fnExactIsConvexFourRow : OpenClaim := { program := "ytkmijohkblmajaa", sum := "d0980a6536d8f26b95ce9815c3d0dca96c318bffa62397f737618a9f42225718", func := "loop.example/g01249/laws.FnExactIsConvexFour", spec := "fnExactIsConvexFour", inPlace := ["math.Float64bits", "math.Float64frombits"], plainKeys := false, apart := false }
def FnExactIsConvexFourSaid : Prop := fnExactIsConvexFourRow.holds Try.pinned (OpenSpec.ofChange fnExactIsConvexFourSpec)

/-- ITS FALSE NEIGHBOUR: 'it returns false'. Refute it at one input. -/
def fnExactIsConvexFourWrong : ChangeSpec := { name := "fnExactIsConvexFour", fn := fun _ => fun
  | [d] => { results := [.lit (.bool false)], args := [d] }
  | _ => none }
def FnExactIsConvexFourWrongFalsely : Prop := fnExactIsConvexFourRow.holds Try.pinned (OpenSpec.ofChange fnExactIsConvexFourWrong)

/-- 'laws.FnExactMapFromFour': WHATEVER THE INPUT: true; the input reads as it did. -/
def fnExactMapFromFourSpec : ChangeSpec := { name := "fnExactMapFromFour", fn := fun _ => fun
  | [d1, d2] => { results := [.lit (.bool true)], args := [d1, d2] }
  | _ => none }
def fnExactMapFromFourRow : OpenClaim := { program := "ytkmijohkblmajaa", sum := "d0980a6536d8f26b95ce9815c3d0dca96c318bffa62397f737618a9f42225718", func := "loop.example/g01249/laws.FnExactMapFromFour", spec := "fnExactMapFromFour", inPlace := ["math.Float64bits", "math.Float64frombits"], unfollowed := true, recurses := true, plainKeys := false, apart := false }
def FnExactMapFromFourSaid : Prop := fnExactMapFromFourRow.holds Try.pinned (OpenSpec.ofChange fnExactMapFromFourSpec)

/-- ITS FALSE NEIGHBOUR: 'it returns false'. Refute it at one input. -/
def fnExactMapFromFourWrong : ChangeSpec := { name := "fnExactMapFromFour", fn := fun _ => fun
  | [d1, d2] => { results := [.lit (.bool false)], args := [d1, d2] }
  | _ => none }
def FnExactMapFromFourWrongFalsely : Prop := fnExactMapFromFourRow.holds Try.pinned (OpenSpec.ofChange fnExactMapFromFourWrong)

/-- 'laws.FnExactBasisOf': WHATEVER THE INPUT: true; the input reads as it did. -/
def fnExactBasisOfSpec : ChangeSpec := { name := "fnExactBasisOf", fn := fun _ => fun
  | [d] => { results := [.lit (.bool true)], args := [d] }
  | _ => none }
def fnExactBasisOfRow : OpenClaim := { program := "ytkmijohkblmajaa", sum := "d0980a6536d8f26b95ce9815c3d0dca96c318bffa62397f737618a9f42225718", func := "loop.example/g01249/laws.FnExactBasisOf", spec := "fnExactBasisOf", inPlace := ["math.sqrt", "math.Float64bits", "math.Float64frombits"], unfollowed := true, recurses := true, plainKeys := false, apart := false }
def FnExactBasisOfSaid : Prop := fnExactBasisOfRow.holds Try.pinned (OpenSpec.ofChange fnExactBasisOfSpec)

/-- ITS FALSE NEIGHBOUR: 'it returns false'. Refute it at one input. -/
def fnExactBasisOfWrong : ChangeSpec := { name := "fnExactBasisOf", fn := fun _ => fun
  | [d] => { results := [.lit (.bool false)], args := [d] }
  | _ => none }
def FnExactBasisOfWrongFalsely : Prop := fnExactBasisOfRow.holds Try.pinned (OpenSpec.ofChange fnExactBasisOfWrong)

/-- 'laws.FnExactShadowOfPoint': WHATEVER THE INPUT: true; the input reads as it did. -/
def fnExactShadowOfPointSpec : ChangeSpec := { name := "fnExactShadowOfPoint", fn := fun _ => fun
  | [d1, d2, d3] => { results := [.lit (.bool true)], args := [d1, d2, d3] }
  | _ => none }
def fnExactShadowOfPointRow : OpenClaim := { program := "ytkmijohkblmajaa", sum := "d0980a6536d8f26b95ce9815c3d0dca96c318bffa62397f737618a9f42225718", func := "loop.example/g01249/laws.FnExactShadowOfPoint", spec := "fnExactShadowOfPoint", inPlace := ["math.sqrt", "math.Float64bits", "math.Float64frombits"], unfollowed := true, recurses := true, plainKeys := false, apart := false }
def FnExactShadowOfPointSaid : Prop := fnExactShadowOfPointRow.holds Try.pinned (OpenSpec.ofChange fnExactShadowOfPointSpec)

/-- ITS FALSE NEIGHBOUR: 'it returns false'. Refute it at one input. -/
def fnExactShadowOfPointWrong : ChangeSpec := { name := "fnExactShadowOfPoint", fn := fun _ => fun
  | [d1, d2, d3] => { results := [.lit (.bool false)], args := [d1, d2, d3] }
  | _ => none }
def FnExactShadowOfPointWrongFalsely : Prop := fnExactShadowOfPointRow.holds Try.pinned (OpenSpec.ofChange fnExactShadowOfPointWrong)

/-- 'laws.FnExactPlaceOf': WHATEVER THE INPUT: true; the input reads as it did. -/
def fnExactPlaceOfSpec : ChangeSpec := { name := "fnExactPlaceOf", fn := fun _ => fun
  | [d1, d2] => { results := [.lit (.bool true)], args := [d1, d2] }
  | _ => none }
def fnExactPlaceOfRow : OpenClaim := { program := "ytkmijohkblmajaa", sum := "d0980a6536d8f26b95ce9815c3d0dca96c318bffa62397f737618a9f42225718", func := "loop.example/g01249/laws.FnExactPlaceOf", spec := "fnExactPlaceOf", inPlace := ["math.sqrt", "math.Float64bits", "math.Float64frombits"], unfollowed := true, recurses := true, plainKeys := false, apart := false }
def FnExactPlaceOfSaid : Prop := fnExactPlaceOfRow.holds Try.pinned (OpenSpec.ofChange fnExactPlaceOfSpec)

/-- ITS FALSE NEIGHBOUR: 'it returns false'. Refute it at one input. -/
def fnExactPlaceOfWrong : ChangeSpec := { name := "fnExactPlaceOf", fn := fun _ => fun
  | [d1, d2] => { results := [.lit (.bool false)], args := [d1, d2] }
  | _ => none }
def FnExactPlaceOfWrongFalsely : Prop := fnExactPlaceOfRow.holds Try.pinned (OpenSpec.ofChange fnExactPlaceOfWrong)

/-- 'laws.FnExactFromPlane': WHATEVER THE INPUT: true; the input reads as it did. -/
def fnExactFromPlaneSpec : ChangeSpec := { name := "fnExactFromPlane", fn := fun _ => fun
  | [d1, d2] => { results := [.lit (.bool true)], args := [d1, d2] }
  | _ => none }
def fnExactFromPlaneRow : OpenClaim := { program := "ytkmijohkblmajaa", sum := "d0980a6536d8f26b95ce9815c3d0dca96c318bffa62397f737618a9f42225718", func := "loop.example/g01249/laws.FnExactFromPlane", spec := "fnExactFromPlane", inPlace := ["math.sqrt", "math.Float64bits", "math.Float64frombits"], unfollowed := true, recurses := true, plainKeys := false, apart := false }
def FnExactFromPlaneSaid : Prop := fnExactFromPlaneRow.holds Try.pinned (OpenSpec.ofChange fnExactFromPlaneSpec)

/-- ITS FALSE NEIGHBOUR: 'it returns false'. Refute it at one input. -/
def fnExactFromPlaneWrong : ChangeSpec := { name := "fnExactFromPlane", fn := fun _ => fun
  | [d1, d2] => { results := [.lit (.bool false)], args := [d1, d2] }
  | _ => none }
def FnExactFromPlaneWrongFalsely : Prop := fnExactFromPlaneRow.holds Try.pinned (OpenSpec.ofChange fnExactFromPlaneWrong)

/-- 'laws.FnExactMapOfPlane': WHATEVER THE INPUT: true; the input reads as it did. -/
def fnExactMapOfPlaneSpec : ChangeSpec := { name := "fnExactMapOfPlane", fn := fun _ => fun
  | [d1, d2, d3, d4] => { results := [.lit (.bool true)], args := [d1, d2, d3, d4] }
  | _ => none }
def fnExactMapOfPlaneRow : OpenClaim := { program := "ytkmijohkblmajaa", sum := "d0980a6536d8f26b95ce9815c3d0dca96c318bffa62397f737618a9f42225718", func := "loop.example/g01249/laws.FnExactMapOfPlane", spec := "fnExactMapOfPlane", inPlace := ["math.sqrt", "math.Float64bits", "math.Float64frombits"], unfollowed := true, recurses := true, plainKeys := false, apart := false }
def FnExactMapOfPlaneSaid : Prop := fnExactMapOfPlaneRow.holds Try.pinned (OpenSpec.ofChange fnExactMapOfPlaneSpec)

/-- ITS FALSE NEIGHBOUR: 'it returns false'. Refute it at one input. -/
def fnExactMapOfPlaneWrong : ChangeSpec := { name := "fnExactMapOfPlane", fn := fun _ => fun
  | [d1, d2, d3, d4] => { results := [.lit (.bool false)], args := [d1, d2, d3, d4] }
  | _ => none }
def FnExactMapOfPlaneWrongFalsely : Prop := fnExactMapOfPlaneRow.holds Try.pinned (OpenSpec.ofChange fnExactMapOfPlaneWrong)

/-- 'laws.FnExactGridOf': WHATEVER THE INPUT: true; the input reads as it did. -/
def fnExactGridOfSpec : ChangeSpec := { name := "fnExactGridOf", fn := fun _ => fun
  | [d1, d2] => { results := [.lit (.bool true)], args := [d1, d2] }
  | _ => none }
def fnExactGridOfRow : OpenClaim := { program := "ytkmijohkblmajaa", sum := "d0980a6536d8f26b95ce9815c3d0dca96c318bffa62397f737618a9f42225718", func := "loop.example/g01249/laws.FnExactGridOf", spec := "fnExactGridOf", inPlace := ["math.Float64bits", "math.Float64frombits"], unfollowed := true, recurses := true, plainKeys := false, apart := false }
def FnExactGridOfSaid : Prop := fnExactGridOfRow.holds Try.pinned (OpenSpec.ofChange fnExactGridOfSpec)

/-- ITS FALSE NEIGHBOUR: 'it returns false'. Refute it at one input. -/
def fnExactGridOfWrong : ChangeSpec := { name := "fnExactGridOf", fn := fun _ => fun
  | [d1, d2] => { results := [.lit (.bool false)], args := [d1, d2] }
  | _ => none }
def FnExactGridOfWrongFalsely : Prop := fnExactGridOfRow.holds Try.pinned (OpenSpec.ofChange fnExactGridOfWrong)

/-- 'laws.FnExactApplyMany': WHATEVER THE INPUT: true; the input reads as it did. -/
def fnExactApplyManySpec : ChangeSpec := { name := "fnExactApplyMany", fn := fun _ => fun
  | [d1, d2] => { results := [.lit (.bool true)], args := [d1, d2] }
  | _ => none }
def fnExactApplyManyRow : OpenClaim := { program := "ytkmijohkblmajaa", sum := "d0980a6536d8f26b95ce9815c3d0dca96c318bffa62397f737618a9f42225718", func := "loop.example/g01249/laws.FnExactApplyMany", spec := "fnExactApplyMany", inPlace := ["math.Float64bits", "math.Float64frombits"], unfollowed := true, recurses := true, plainKeys := false, apart := false }
def FnExactApplyManySaid : Prop := fnExactApplyManyRow.holds Try.pinned (OpenSpec.ofChange fnExactApplyManySpec)

/-- ITS FALSE NEIGHBOUR: 'it returns false'. Refute it at one input. -/
def fnExactApplyManyWrong : ChangeSpec := { name := "fnExactApplyMany", fn := fun _ => fun
  | [d1, d2] => { results := [.lit (.bool false)], args := [d1, d2] }
  | _ => none }
def FnExactApplyManyWrongFalsely : Prop := fnExactApplyManyRow.holds Try.pinned (OpenSpec.ofChange fnExactApplyManyWrong)

/-- 'laws.FnExactWorstOff': WHATEVER THE INPUT: true; the input reads as it did. -/
def fnExactWorstOffSpec : ChangeSpec := { name := "fnExactWorstOff", fn := fun _ => fun
  | [d1, d2, d3] => { results := [.lit (.bool true)], args := [d1, d2, d3] }
  | _ => none }
def fnExactWorstOffRow : OpenClaim := { program := "ytkmijohkblmajaa", sum := "d0980a6536d8f26b95ce9815c3d0dca96c318bffa62397f737618a9f42225718", func := "loop.example/g01249/laws.FnExactWorstOff", spec := "fnExactWorstOff", inPlace := ["math.sqrt", "math.Float64bits", "math.Float64frombits"], unfollowed := true, recurses := true, plainKeys := false, apart := false }
def FnExactWorstOffSaid : Prop := fnExactWorstOffRow.holds Try.pinned (OpenSpec.ofChange fnExactWorstOffSpec)

/-- ITS FALSE NEIGHBOUR: 'it returns false'. Refute it at one input. -/
def fnExactWorstOffWrong : ChangeSpec := { name := "fnExactWorstOff", fn := fun _ => fun
  | [d1, d2, d3] => { results := [.lit (.bool false)], args := [d1, d2, d3] }
  | _ => none }
def FnExactWorstOffWrongFalsely : Prop := fnExactWorstOffRow.holds Try.pinned (OpenSpec.ofChange fnExactWorstOffWrong)

/-- 'laws.FnExactHullOf': WHATEVER THE INPUT: true; the input reads as it did. -/
def fnExactHullOfSpec : ChangeSpec := { name := "fnExactHullOf", fn := fun _ => fun
  | [d] => { results := [.lit (.bool true)], args := [d] }
  | _ => none }
def fnExactHullOfRow : OpenClaim := { program := "ytkmijohkblmajaa", sum := "d0980a6536d8f26b95ce9815c3d0dca96c318bffa62397f737618a9f42225718", func := "loop.example/g01249/laws.FnExactHullOf", spec := "fnExactHullOf", unfollowed := true, recurses := true, plainKeys := false, apart := false }
def FnExactHullOfSaid : Prop := fnExactHullOfRow.holds Try.pinned (OpenSpec.ofChange fnExactHullOfSpec)

/-- ITS FALSE NEIGHBOUR: 'it returns false'. Refute it at one input. -/
def fnExactHullOfWrong : ChangeSpec := { name := "fnExactHullOf", fn := fun _ => fun
  | [d] => { results := [.lit (.bool false)], args := [d] }
  | _ => none }
def FnExactHullOfWrongFalsely : Prop := fnExactHullOfRow.holds Try.pinned (OpenSpec.ofChange fnExactHullOfWrong)

/-- 'laws.FnExactNeighbourOf': WHATEVER THE INPUT: true; the input reads as it did. -/
def fnExactNeighbourOfSpec : ChangeSpec := { name := "fnExactNeighbourOf", fn := fun _ => fun
  | [d1, d2, d3] => { results := [.lit (.bool true)], args := [d1, d2, d3] }
  | _ => none }
def fnExactNeighbourOfRow : OpenClaim := { program := "ytkmijohkblmajaa", sum := "d0980a6536d8f26b95ce9815c3d0dca96c318bffa62397f737618a9f42225718", func := "loop.example/g01249/laws.FnExactNeighbourOf", spec := "fnExactNeighbourOf", inPlace := ["math.sqrt", "math.Float64bits", "math.Float64frombits"], unfollowed := true, recurses := true, plainKeys := false, apart := false }
def FnExactNeighbourOfSaid : Prop := fnExactNeighbourOfRow.holds Try.pinned (OpenSpec.ofChange fnExactNeighbourOfSpec)

/-- ITS FALSE NEIGHBOUR: 'it returns false'. Refute it at one input. -/
def fnExactNeighbourOfWrong : ChangeSpec := { name := "fnExactNeighbourOf", fn := fun _ => fun
  | [d1, d2, d3] => { results := [.lit (.bool false)], args := [d1, d2, d3] }
  | _ => none }
def FnExactNeighbourOfWrongFalsely : Prop := fnExactNeighbourOfRow.holds Try.pinned (OpenSpec.ofChange fnExactNeighbourOfWrong)

/- THE SECOND FORM. 'bulk': how many values and letters a reading holds, each counted each time it is reached (what is shared counts as often as it is met; a slice's spare places count too). A statement '..UptoSaid' is the law's where the arguments, and the package variables that the reading takes, are together of bulk at most 1048576: NARROWER than '..Said'. Prove '..Said' where nothing that the law and all that it calls make is longer than what came in: it says more and counts as full. Else prove '..UptoSaid'. A law counts once. -/
mutual
def uptoBulk {H : Type} : DataW H → Nat
  | .lit (.string bytes) => bytes.length + 1
  | .lit _ => 1
  | .nil => 1
  | .ptr d => uptoBulk d + 1
  | .slice elems spare => uptoBulkAll elems + uptoBulkAll spare + 1
  | .agg parts => uptoBulkAll parts + 1
  | .iface _ d => uptoBulk d + 1
  | .map entries => uptoBulkEntries entries + 1
  | .held _ => 1
def uptoBulkAll {H : Type} : List (DataW H) → Nat
  | [] => 0
  | d :: r => uptoBulk d + uptoBulkAll r
def uptoBulkEntries {H : Type} : List (Lit × DataW H) → Nat
  | [] => 0
  | x :: r => uptoBulkEntry x + uptoBulkEntries r
def uptoBulkEntry {H : Type} : Lit × DataW H → Nat
  | (.string bytes, d) => bytes.length + uptoBulk d + 1
  | (_, d) => uptoBulk d + 1
 end
def uptoSmall : (H : Type) → List (DataW H) → Bool := fun _ ds => decide (uptoBulkAll ds ≤ 1048576)
def OpenSpec.upto (s : _root_.Go.ChangeSpec) : _root_.Go.OpenSpec := { _root_.Go.OpenSpec.ofChange s with cond := some uptoSmall }

/-- 'laws.FnExactIsConvexFour', WHERE WHAT IT READS IS OF BULK AT MOST 1048576: true; the input reads as it did. -/
def fnExactIsConvexFourUptoRow : OpenClaim := { program := "ytkmijohkblmajaa", sum := "d0980a6536d8f26b95ce9815c3d0dca96c318bffa62397f737618a9f42225718", func := "loop.example/g01249/laws.FnExactIsConvexFour", spec := "fnExactIsConvexFour", inPlace := ["math.Float64bits", "math.Float64frombits"], plainKeys := false, apart := false, narrowed := true }
def FnExactIsConvexFourUptoSaid : Prop := fnExactIsConvexFourUptoRow.holds Try.pinned (OpenSpec.upto fnExactIsConvexFourSpec)

/-- 'laws.FnExactMapFromFour', WHERE WHAT IT READS IS OF BULK AT MOST 1048576: true; the input reads as it did. -/
def fnExactMapFromFourUptoRow : OpenClaim := { program := "ytkmijohkblmajaa", sum := "d0980a6536d8f26b95ce9815c3d0dca96c318bffa62397f737618a9f42225718", func := "loop.example/g01249/laws.FnExactMapFromFour", spec := "fnExactMapFromFour", inPlace := ["math.Float64bits", "math.Float64frombits"], unfollowed := true, recurses := true, plainKeys := false, apart := false, narrowed := true }
def FnExactMapFromFourUptoSaid : Prop := fnExactMapFromFourUptoRow.holds Try.pinned (OpenSpec.upto fnExactMapFromFourSpec)

/-- 'laws.FnExactBasisOf', WHERE WHAT IT READS IS OF BULK AT MOST 1048576: true; the input reads as it did. -/
def fnExactBasisOfUptoRow : OpenClaim := { program := "ytkmijohkblmajaa", sum := "d0980a6536d8f26b95ce9815c3d0dca96c318bffa62397f737618a9f42225718", func := "loop.example/g01249/laws.FnExactBasisOf", spec := "fnExactBasisOf", inPlace := ["math.sqrt", "math.Float64bits", "math.Float64frombits"], unfollowed := true, recurses := true, plainKeys := false, apart := false, narrowed := true }
def FnExactBasisOfUptoSaid : Prop := fnExactBasisOfUptoRow.holds Try.pinned (OpenSpec.upto fnExactBasisOfSpec)

/-- 'laws.FnExactShadowOfPoint', WHERE WHAT IT READS IS OF BULK AT MOST 1048576: true; the input reads as it did. -/
def fnExactShadowOfPointUptoRow : OpenClaim := { program := "ytkmijohkblmajaa", sum := "d0980a6536d8f26b95ce9815c3d0dca96c318bffa62397f737618a9f42225718", func := "loop.example/g01249/laws.FnExactShadowOfPoint", spec := "fnExactShadowOfPoint", inPlace := ["math.sqrt", "math.Float64bits", "math.Float64frombits"], unfollowed := true, recurses := true, plainKeys := false, apart := false, narrowed := true }
def FnExactShadowOfPointUptoSaid : Prop := fnExactShadowOfPointUptoRow.holds Try.pinned (OpenSpec.upto fnExactShadowOfPointSpec)

/-- 'laws.FnExactPlaceOf', WHERE WHAT IT READS IS OF BULK AT MOST 1048576: true; the input reads as it did. -/
def fnExactPlaceOfUptoRow : OpenClaim := { program := "ytkmijohkblmajaa", sum := "d0980a6536d8f26b95ce9815c3d0dca96c318bffa62397f737618a9f42225718", func := "loop.example/g01249/laws.FnExactPlaceOf", spec := "fnExactPlaceOf", inPlace := ["math.sqrt", "math.Float64bits", "math.Float64frombits"], unfollowed := true, recurses := true, plainKeys := false, apart := false, narrowed := true }
def FnExactPlaceOfUptoSaid : Prop := fnExactPlaceOfUptoRow.holds Try.pinned (OpenSpec.upto fnExactPlaceOfSpec)

/-- 'laws.FnExactFromPlane', WHERE WHAT IT READS IS OF BULK AT MOST 1048576: true; the input reads as it did. -/
def fnExactFromPlaneUptoRow : OpenClaim := { program := "ytkmijohkblmajaa", sum := "d0980a6536d8f26b95ce9815c3d0dca96c318bffa62397f737618a9f42225718", func := "loop.example/g01249/laws.FnExactFromPlane", spec := "fnExactFromPlane", inPlace := ["math.sqrt", "math.Float64bits", "math.Float64frombits"], unfollowed := true, recurses := true, plainKeys := false, apart := false, narrowed := true }
def FnExactFromPlaneUptoSaid : Prop := fnExactFromPlaneUptoRow.holds Try.pinned (OpenSpec.upto fnExactFromPlaneSpec)

/-- 'laws.FnExactMapOfPlane', WHERE WHAT IT READS IS OF BULK AT MOST 1048576: true; the input reads as it did. -/
def fnExactMapOfPlaneUptoRow : OpenClaim := { program := "ytkmijohkblmajaa", sum := "d0980a6536d8f26b95ce9815c3d0dca96c318bffa62397f737618a9f42225718", func := "loop.example/g01249/laws.FnExactMapOfPlane", spec := "fnExactMapOfPlane", inPlace := ["math.sqrt", "math.Float64bits", "math.Float64frombits"], unfollowed := true, recurses := true, plainKeys := false, apart := false, narrowed := true }
def FnExactMapOfPlaneUptoSaid : Prop := fnExactMapOfPlaneUptoRow.holds Try.pinned (OpenSpec.upto fnExactMapOfPlaneSpec)

/-- 'laws.FnExactGridOf', WHERE WHAT IT READS IS OF BULK AT MOST 1048576: true; the input reads as it did. -/
def fnExactGridOfUptoRow : OpenClaim := { program := "ytkmijohkblmajaa", sum := "d0980a6536d8f26b95ce9815c3d0dca96c318bffa62397f737618a9f42225718", func := "loop.example/g01249/laws.FnExactGridOf", spec := "fnExactGridOf", inPlace := ["math.Float64bits", "math.Float64frombits"], unfollowed := true, recurses := true, plainKeys := false, apart := false, narrowed := true }
def FnExactGridOfUptoSaid : Prop := fnExactGridOfUptoRow.holds Try.pinned (OpenSpec.upto fnExactGridOfSpec)

/-- 'laws.FnExactApplyMany', WHERE WHAT IT READS IS OF BULK AT MOST 1048576: true; the input reads as it did. -/
def fnExactApplyManyUptoRow : OpenClaim := { program := "ytkmijohkblmajaa", sum := "d0980a6536d8f26b95ce9815c3d0dca96c318bffa62397f737618a9f42225718", func := "loop.example/g01249/laws.FnExactApplyMany", spec := "fnExactApplyMany", inPlace := ["math.Float64bits", "math.Float64frombits"], unfollowed := true, recurses := true, plainKeys := false, apart := false, narrowed := true }
def FnExactApplyManyUptoSaid : Prop := fnExactApplyManyUptoRow.holds Try.pinned (OpenSpec.upto fnExactApplyManySpec)

/-- 'laws.FnExactWorstOff', WHERE WHAT IT READS IS OF BULK AT MOST 1048576: true; the input reads as it did. -/
def fnExactWorstOffUptoRow : OpenClaim := { program := "ytkmijohkblmajaa", sum := "d0980a6536d8f26b95ce9815c3d0dca96c318bffa62397f737618a9f42225718", func := "loop.example/g01249/laws.FnExactWorstOff", spec := "fnExactWorstOff", inPlace := ["math.sqrt", "math.Float64bits", "math.Float64frombits"], unfollowed := true, recurses := true, plainKeys := false, apart := false, narrowed := true }
def FnExactWorstOffUptoSaid : Prop := fnExactWorstOffUptoRow.holds Try.pinned (OpenSpec.upto fnExactWorstOffSpec)

/-- 'laws.FnExactHullOf', WHERE WHAT IT READS IS OF BULK AT MOST 1048576: true; the input reads as it did. -/
def fnExactHullOfUptoRow : OpenClaim := { program := "ytkmijohkblmajaa", sum := "d0980a6536d8f26b95ce9815c3d0dca96c318bffa62397f737618a9f42225718", func := "loop.example/g01249/laws.FnExactHullOf", spec := "fnExactHullOf", unfollowed := true, recurses := true, plainKeys := false, apart := false, narrowed := true }
def FnExactHullOfUptoSaid : Prop := fnExactHullOfUptoRow.holds Try.pinned (OpenSpec.upto fnExactHullOfSpec)

/-- 'laws.FnExactNeighbourOf', WHERE WHAT IT READS IS OF BULK AT MOST 1048576: true; the input reads as it did. -/
def fnExactNeighbourOfUptoRow : OpenClaim := { program := "ytkmijohkblmajaa", sum := "d0980a6536d8f26b95ce9815c3d0dca96c318bffa62397f737618a9f42225718", func := "loop.example/g01249/laws.FnExactNeighbourOf", spec := "fnExactNeighbourOf", inPlace := ["math.sqrt", "math.Float64bits", "math.Float64frombits"], unfollowed := true, recurses := true, plainKeys := false, apart := false, narrowed := true }
def FnExactNeighbourOfUptoSaid : Prop := fnExactNeighbourOfUptoRow.holds Try.pinned (OpenSpec.upto fnExactNeighbourOfSpec)

end Rows
end Go.Proofs.Ytkmijohkblmajaa
