/- The law FnExactValidLamp holds at every input: the walked contracts of its functions, and equality of what the two sides compute. No condition besides the row's own. -/
import Derived.Test.YtlklakllkicblaaRows
import Derived.Test.YtlklakllkicblaaFn
import Derived.ProofKit
namespace Go.Proofs.Ytlklakllkicblaa
open Go Go.RowKit Go.ChangeShapes Go.WideShapes Go.ChangeAt

theorem own_fnExactValidLamp : ownKnob Try.prog.godebug = none := by kernel_rfl
theorem laid_fnExactValidLamp : laidOutB Try.prog = true := by kernel_rfl

theorem true_fnExactValidLamp (u0 : Nat) (u1 : Nat) (u2 : Nat) (u3 : Bool) (u4 : Nat) : (bif (!(((okLamp u0 u1 u2 u3 u4) : Bool) == (okLamp u0 u1 u2 u3 u4))) then false else true) = true := by
  simp [sameD_self, allC]

set_option maxRecDepth 100000 in
theorem lifted_fnExactValidLamp (os : Os) (started : os.Started) (H : Type) (enc : TypeId × Value → H) : ReturnsInHanded {} Try.checked os 9 .any (Rows.fnExactValidLampSpec.pre6 enc Try.prog Try.f9 Rows.fnExactValidLampRow.domain false) (Rows.fnExactValidLampSpec.post enc Try.prog Try.f9 false true false false) := by
  refine returnsInHanded_of_change (C := Try.checked) own_fnExactValidLamp started (by kernel_rfl) Try.func9 (ChangeSpec.witness6 (enc := enc) (C := Try.checked) false ⟨#[], #[.agg #[.float .f32 0, .float .f32 0, .float .f32 0, .bool false, .float .f32 0]], []⟩ 8 (by kernel_rfl) (by kernel_rfl) (by kernel_rfl) (by kernel_rfl)) ?_
  intro W base args ds gs before hval hW _ _
  refine law_step (tb := 4) hW laid_fnExactValidLamp (by kernel_rfl) rfl ?_ rfl (by kernel_rfl) ?_
  · intro ds hl
    have hl : ds.length = 1 := hl
    obtain ⟨d0, ds1, rfl, hl1⟩ := len_more hl
    obtain rfl := len_none hl1
    rfl
  have hl : args.toList.length = 1 := whole_len hW
  clear hW
  obtain ⟨ws⟩ := args
  simp only at hl
  obtain ⟨v0, as1, rfl, hl1⟩ := len_more hl
  obtain rfl := len_none hl1
  obtain ⟨l0, b0, i0, n0, nb0, ni0, c0, ci0, d0⟩ := open_mixed (ts := [22, 22, 22, 4, 22]) [.f, .f, .f, .b, .f] (by kernel_rfl) (by kernel_rfl) (hval 0 56 v0 rfl rfl)
  obtain ⟨u0, tf0_1, rfl, nf0_1⟩ := len_more n0
  obtain ⟨u1, tf0_2, rfl, nf0_2⟩ := len_more nf0_1
  obtain ⟨u2, tf0_3, rfl, nf0_3⟩ := len_more nf0_2
  obtain ⟨u4, tf0_4, rfl, nf0_4⟩ := len_more nf0_3
  obtain rfl := len_none nf0_4
  obtain ⟨u3, tb0_1, rfl, nb0_1⟩ := len_more nb0
  obtain rfl := len_none nb0_1
  obtain rfl := len_none ni0
  refine law_calls (fn := Try.f9) ok_laws_FnExactValidLamp ⟨Try.func9, by kernel_rfl, by kernel_rfl⟩ ?_ (.cons d0 (.nil))
  exact congrArg (fun b => some [rB b]) (true_fnExactValidLamp u0 u1 u2 u3 u4)

theorem fnExactValidLamp_holds : Rows.FnExactValidLampSaid := OpenClaim.holds_of_wide 9 Try.f9 rfl rfl rfl rfl rfl rfl rfl ⟨rfl, rfl, rfl, rfl, rfl⟩ rfl rfl rfl rfl rfl (by kernel_rfl) Try.func9 (by kernel_rfl) (of_decide_eq_true (by kernel_rfl)) (by unfold Func.isWrapper; first | (rw [if_pos (by decide +kernel)]; kernel_rfl) | (rw [if_neg (by decide +kernel)]; exact ⟨rfl, rfl⟩))
  (fun os started H enc _ => lifted_fnExactValidLamp os started H enc)
end Go.Proofs.Ytlklakllkicblaa
