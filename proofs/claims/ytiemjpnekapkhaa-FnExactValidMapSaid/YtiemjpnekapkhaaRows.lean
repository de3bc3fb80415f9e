/-
  No cell of these rows narrows 'for every input' (looked for: loops, veiled, ifaces, maps, wideKeys, modest, calm, conditions, laid).
  DERIVED. THE GIVEN ROWS OF THIS SEAT. 6 by the template 'for every input the law returns true; each argument reads behind the call as it read before'; 0 by the template 'total and deterministic' (their statements: YtiemjpnekapkhaaTotals.lean).
  GIVEN WITH THE SEED: the statements are not yours to turn. If you find one false, say at which input.
  Laid BY PROGRAM, IN A SANDBOX (cutbox-rows.mjs): the forced cells as the released guide's own fill.sh prints them over the translation 06ff7fa986dd5a86… (all of the seat's roots in one cut). By AI agents, Wed Nov 11 2026. No macro, syntax, notation, axiom, sorry.
-/
import Derived.Test.YtiemjpnekapkhaaChecked
import GoSem.Claim
import GoSem.ClaimJoined
import GoSem.ClaimMapViews
import Derived.JoinedTies
import Derived.KernelRfl
namespace Go.Proofs.Ytiemjpnekapkhaa
/- THE CELL 'sum', in the pinned program and in every row, IS THE sha256 OF THE DUMP (.gsa) THAT YtiemjpnekapkhaaProg.lean LOADS. Nothing in Lean hashes anything: it is a label: what it is worth is what the hold of that sum in a sandbox is worth. -/
noncomputable def Try.pinned : Pinned := { name := "ytiemjpnekapkhaa", sum := "06ff7fa986dd5a865b98da16c9759aa42e882c27ae9cf7008da01b33a5571f69", checked := Try.checked }
namespace Rows
def none {H : Type} : Left H := { results := [], args := [] }

/-- 'laws.FnExactTurnsLeft': WHATEVER THE INPUT: true; the input reads as it did. -/
def fnExactTurnsLeftSpec : ChangeSpec := { name := "fnExactTurnsLeft", fn := fun _ => fun
  | [d1, d2, d3] => { results := [.lit (.bool true)], args := [d1, d2, d3] }
  | _ => none }
def fnExactTurnsLeftRow : OpenClaim := { program := "ytiemjpnekapkhaa", sum := "06ff7fa986dd5a865b98da16c9759aa42e882c27ae9cf7008da01b33a5571f69", func := "loop.example/g01249/laws.FnExactTurnsLeft", spec := "fnExactTurnsLeft", apart := false }
def FnExactTurnsLeftSaid : Prop := fnExactTurnsLeftRow.holds Try.pinned (OpenSpec.ofChange fnExactTurnsLeftSpec)

/-- ITS FALSE NEIGHBOUR: 'it returns false'. Refute it at one input. -/
def fnExactTurnsLeftWrong : ChangeSpec := { name := "fnExactTurnsLeft", fn := fun _ => fun
  | [d1, d2, d3] => { results := [.lit (.bool false)], args := [d1, d2, d3] }
  | _ => none }
def FnExactTurnsLeftWrongFalsely : Prop := fnExactTurnsLeftRow.holds Try.pinned (OpenSpec.ofChange fnExactTurnsLeftWrong)

/-- 'laws.FnExactDetOf': WHATEVER THE INPUT: true; the input reads as it did. -/
def fnExactDetOfSpec : ChangeSpec := { name := "fnExactDetOf", fn := fun _ => fun
  | [d] => { results := [.lit (.bool true)], args := [d] }
  | _ => none }
def fnExactDetOfRow : OpenClaim := { program := "ytiemjpnekapkhaa", sum := "06ff7fa986dd5a865b98da16c9759aa42e882c27ae9cf7008da01b33a5571f69", func := "loop.example/g01249/laws.FnExactDetOf", spec := "fnExactDetOf", apart := false }
def FnExactDetOfSaid : Prop := fnExactDetOfRow.holds Try.pinned (OpenSpec.ofChange fnExactDetOfSpec)

/-- ITS FALSE NEIGHBOUR: 'it returns false'. Refute it at one input. -/
def fnExactDetOfWrong : ChangeSpec := { name := "fnExactDetOf", fn := fun _ => fun
  | [d] => { results := [.lit (.bool false)], args := [d] }
  | _ => none }
def FnExactDetOfWrongFalsely : Prop := fnExactDetOfRow.holds Try.pinned (OpenSpec.ofChange fnExactDetOfWrong)

/-- 'laws.FnExactSameLamp': WHATEVER THE INPUT: true; the input reads as it did. -/
def fnExactSameLampSpec : ChangeSpec := { name := "fnExactSameLamp", fn := fun _ => fun
  | [d1, d2] => { results := [.lit (.bool true)], args := [d1, d2] }
  | _ => none }
def fnExactSameLampRow : OpenClaim := { program := "ytiemjpnekapkhaa", sum := "06ff7fa986dd5a865b98da16c9759aa42e882c27ae9cf7008da01b33a5571f69", func := "loop.example/g01249/laws.FnExactSameLamp", spec := "fnExactSameLamp", inPlace := ["math.Float32bits"], apart := false }
def FnExactSameLampSaid : Prop := fnExactSameLampRow.holds Try.pinned (OpenSpec.ofChange fnExactSameLampSpec)

/-- ITS FALSE NEIGHBOUR: 'it returns false'. Refute it at one input. -/
def fnExactSameLampWrong : ChangeSpec := { name := "fnExactSameLamp", fn := fun _ => fun
  | [d1, d2] => { results := [.lit (.bool false)], args := [d1, d2] }
  | _ => none }
def FnExactSameLampWrongFalsely : Prop := fnExactSameLampRow.holds Try.pinned (OpenSpec.ofChange fnExactSameLampWrong)

/-- 'laws.FnExactAreaOfFour': WHATEVER THE INPUT: true; the input reads as it did. -/
def fnExactAreaOfFourSpec : ChangeSpec := { name := "fnExactAreaOfFour", fn := fun _ => fun
  | [d] => { results := [.lit (.bool true)], args := [d] }
  | _ => none }
def fnExactAreaOfFourRow : OpenClaim := { program := "ytiemjpnekapkhaa", sum := "06ff7fa986dd5a865b98da16c9759aa42e882c27ae9cf7008da01b33a5571f69", func := "loop.example/g01249/laws.FnExactAreaOfFour", spec := "fnExactAreaOfFour", apart := false }
def FnExactAreaOfFourSaid : Prop := fnExactAreaOfFourRow.holds Try.pinned (OpenSpec.ofChange fnExactAreaOfFourSpec)

/-- ITS FALSE NEIGHBOUR: 'it returns false'. Refute it at one input. -/
def fnExactAreaOfFourWrong : ChangeSpec := { name := "fnExactAreaOfFour", fn := fun _ => fun
  | [d] => { results := [.lit (.bool false)], args := [d] }
  | _ => none }
def FnExactAreaOfFourWrongFalsely : Prop := fnExactAreaOfFourRow.holds Try.pinned (OpenSpec.ofChange fnExactAreaOfFourWrong)

/-- 'laws.FnExactSameMap': WHATEVER THE INPUT: true; the input reads as it did. -/
def fnExactSameMapSpec : ChangeSpec := { name := "fnExactSameMap", fn := fun _ => fun
  | [d1, d2] => { results := [.lit (.bool true)], args := [d1, d2] }
  | _ => none }
def fnExactSameMapRow : OpenClaim := { program := "ytiemjpnekapkhaa", sum := "06ff7fa986dd5a865b98da16c9759aa42e882c27ae9cf7008da01b33a5571f69", func := "loop.example/g01249/laws.FnExactSameMap", spec := "fnExactSameMap", inPlace := ["math.Float32bits"], unfollowed := true, recurses := true, apart := false }
def FnExactSameMapSaid : Prop := fnExactSameMapRow.holds Try.pinned (OpenSpec.ofChange fnExactSameMapSpec)

/-- ITS FALSE NEIGHBOUR: 'it returns false'. Refute it at one input. -/
def fnExactSameMapWrong : ChangeSpec := { name := "fnExactSameMap", fn := fun _ => fun
  | [d1, d2] => { results := [.lit (.bool false)], args := [d1, d2] }
  | _ => none }
def FnExactSameMapWrongFalsely : Prop := fnExactSameMapRow.holds Try.pinned (OpenSpec.ofChange fnExactSameMapWrong)

/-- 'laws.FnExactValidMap': WHATEVER THE INPUT: true; the input reads as it did. -/
def fnExactValidMapSpec : ChangeSpec := { name := "fnExactValidMap", fn := fun _ => fun
  | [d] => { results := [.lit (.bool true)], args := [d] }
  | _ => none }
def fnExactValidMapRow : OpenClaim := { program := "ytiemjpnekapkhaa", sum := "06ff7fa986dd5a865b98da16c9759aa42e882c27ae9cf7008da01b33a5571f69", func := "loop.example/g01249/laws.FnExactValidMap", spec := "fnExactValidMap", inPlace := ["math.Float64bits", "math.Float64frombits"], unfollowed := true, recurses := true, apart := false }
def FnExactValidMapSaid : Prop := fnExactValidMapRow.holds Try.pinned (OpenSpec.ofChange fnExactValidMapSpec)

/-- ITS FALSE NEIGHBOUR: 'it returns false'. Refute it at one input. -/
def fnExactValidMapWrong : ChangeSpec := { name := "fnExactValidMap", fn := fun _ => fun
  | [d] => { results := [.lit (.bool false)], args := [d] }
  | _ => none }
def FnExactValidMapWrongFalsely : Prop := fnExactValidMapRow.holds Try.pinned (OpenSpec.ofChange fnExactValidMapWrong)

/- THE SECOND FORM. 'bulk': how many values and letters a reading holds, each counted each time it is reached (what is shared counts as often as it is met; a slice's spare places count too). A statement '..UptoSaid' is the law's where the arguments, and the package variables that the reading takes, are together of bulk at most 1048576: NARROWER than '..Said'. Prove '..Said' where nothing that the law and all that it calls make is longer than what came in: it says more and counts as full. Else prove '..UptoSaid'. A law counts once. -/
mutual
def uptoBulk {H : Type} : DataW H → Nat
  | .lit (.string bytes) => bytes.length + 1
  | .lit _ => 1
  | .nil => 1
  | .ptr d => uptoBulk d + 1
  | .slice elems spare => uptoBulkAll elems + uptoBulkAll spare + 1
  | .agg parts => uptoBulkAll parts + 1
  | .iface _ d => uptoBulk d + 1
  | .map entries => uptoBulkEntries entries + 1
  | .held _ => 1
def uptoBulkAll {H : Type} : List (DataW H) → Nat
  | [] => 0
  | d :: r => uptoBulk d + uptoBulkAll r
def uptoBulkEntries {H : Type} : List (Lit × DataW H) → Nat
  | [] => 0
  | x :: r => uptoBulkEntry x + uptoBulkEntries r
def uptoBulkEntry {H : Type} : Lit × DataW H → Nat
  | (.string bytes, d) => bytes.length + uptoBulk d + 1
  | (_, d) => uptoBulk d + 1
 end
def uptoSmall : (H : Type) → List (DataW H) → Bool := fun _ ds => decide (uptoBulkAll ds ≤ 1048576)
def OpenSpec.upto (s : _root_.Go.ChangeSpec) : _root_.Go.OpenSpec := { _root_.Go.OpenSpec.ofChange s with cond := some uptoSmall }

/-- 'laws.FnExactTurnsLeft', WHERE WHAT IT READS IS OF BULK AT MOST 1048576: true; the input reads as it did. -/
def fnExactTurnsLeftUptoRow : OpenClaim := { program := "ytiemjpnekapkhaa", sum := "06ff7fa986dd5a865b98da16c9759aa42e882c27ae9cf7008da01b33a5571f69", func := "loop.example/g01249/laws.FnExactTurnsLeft", spec := "fnExactTurnsLeft", apart := false, narrowed := true }
def FnExactTurnsLeftUptoSaid : Prop := fnExactTurnsLeftUptoRow.holds Try.pinned (OpenSpec.upto fnExactTurnsLeftSpec)

/-- 'laws.FnExactDetOf', WHERE WHAT IT READS IS OF BULK AT MOST 1048576: true; the input reads as it did. -/
def fnExactDetOfUptoRow : OpenClaim := { program := "ytiemjpnekapkhaa", sum := "06ff7fa986dd5a865b98da16c9759aa42e882c27ae9cf7008da01b33a5571f69", func := "loop.example/g01249/laws.FnExactDetOf", spec := "fnExactDetOf", apart := false, narrowed := true }
def FnExactDetOfUptoSaid : Prop := fnExactDetOfUptoRow.holds Try.pinned (OpenSpec.upto fnExactDetOfSpec)

/-- 'laws.FnExactSameLamp', WHERE WHAT IT READS IS OF BULK AT MOST 1048576: true; the input reads as it did. -/
def fnExactSameLampUptoRow : OpenClaim := { program := "ytiemjpnekapkhaa", sum := "06ff7fa986dd5a865b98da16c9759aa42e882c27ae9cf7008da01b33a5571f69", func := "loop.example/g01249/laws.FnExactSameLamp", spec := "fnExactSameLamp", inPlace := ["math.Float32bits"], apart := false, narrowed := true }
def FnExactSameLampUptoSaid : Prop := fnExactSameLampUptoRow.holds Try.pinned (OpenSpec.upto fnExactSameLampSpec)

/-- 'laws.FnExactAreaOfFour', WHERE WHAT IT READS IS OF BULK AT MOST 1048576: true; the input reads as it did. -/
def fnExactAreaOfFourUptoRow : OpenClaim := { program := "ytiemjpnekapkhaa", sum := "06ff7fa986dd5a865b98da16c9759aa42e882c27ae9cf7008da01b33a5571f69", func := "loop.example/g01249/laws.FnExactAreaOfFour", spec := "fnExactAreaOfFour", apart := false, narrowed := true }
def FnExactAreaOfFourUptoSaid : Prop := fnExactAreaOfFourUptoRow.holds Try.pinned (OpenSpec.upto fnExactAreaOfFourSpec)

/-- 'laws.FnExactSameMap', WHERE WHAT IT READS IS OF BULK AT MOST 1048576: true; the input reads as it did. -/
def fnExactSameMapUptoRow : OpenClaim := { program := "ytiemjpnekapkhaa", sum := "06ff7fa986dd5a865b98da16c9759aa42e882c27ae9cf7008da01b33a5571f69", func := "loop.example/g01249/laws.FnExactSameMap", spec := "fnExactSameMap", inPlace := ["math.Float32bits"], unfollowed := true, recurses := true, apart := false, narrowed := true }
def FnExactSameMapUptoSaid : Prop := fnExactSameMapUptoRow.holds Try.pinned (OpenSpec.upto fnExactSameMapSpec)

/-- 'laws.FnExactValidMap', WHERE WHAT IT READS IS OF BULK AT MOST 1048576: true; the input reads as it did. -/
def fnExactValidMapUptoRow : OpenClaim := { program := "ytiemjpnekapkhaa", sum := "06ff7fa986dd5a865b98da16c9759aa42e882c27ae9cf7008da01b33a5571f69", func := "loop.example/g01249/laws.FnExactValidMap", spec := "fnExactValidMap", inPlace := ["math.Float64bits", "math.Float64frombits"], unfollowed := true, recurses := true, apart := false, narrowed := true }
def FnExactValidMapUptoSaid : Prop := fnExactValidMapUptoRow.holds Try.pinned (OpenSpec.upto fnExactValidMapSpec)

end Rows
end Go.Proofs.Ytiemjpnekapkhaa
