/- The law FnExactIsConvexFour holds at every input: the walked contracts of its functions, and equality of what the two sides compute. No condition besides the row's own. -/
import Derived.Test.YtkmijohkblmajaaRows
import Derived.Test.YtkmijohkblmajaaFn
import Derived.ProofKit
namespace Go.Proofs.Ytkmijohkblmajaa
open Go Go.RowKit Go.ChangeShapes Go.WideShapes Go.ChangeAt

theorem own_fnExactIsConvexFour : ownKnob Try.prog.godebug = none := by kernel_rfl
theorem laid_fnExactIsConvexFour : laidOutB Try.prog = true := by kernel_rfl

theorem true_fnExactIsConvexFour (u0 : Nat) (u1 : Nat) (u2 : Nat) (u3 : Nat) (u4 : Nat) (u5 : Nat) (u6 : Nat) (u7 : Nat) : (bif (!(((isConvexFour u0 u1 u2 u3 u4 u5 u6 u7) : Bool) == (isConvexFour u0 u1 u2 u3 u4 u5 u6 u7))) then false else true) = true := by
  simp [sameD_self, allC, allC_same, allC_true]

set_option maxRecDepth 100000 in
theorem lifted_fnExactIsConvexFour (os : Os) (started : os.Started) (H : Type) (enc : TypeId × Value → H) : ReturnsInHanded {} Try.checked os 3 .any (Rows.fnExactIsConvexFourSpec.pre6 enc Try.prog Try.f3 Rows.fnExactIsConvexFourRow.domain false) (Rows.fnExactIsConvexFourSpec.post enc Try.prog Try.f3 false true false false) := by
  refine returnsInHanded_of_change (C := Try.checked) own_fnExactIsConvexFour started (by kernel_rfl) Try.func3 (ChangeSpec.witness6 (enc := enc) (C := Try.checked) false ⟨#[], #[.agg #[.float .f32 0, .float .f32 0, .float .f32 0, .float .f32 0, .float .f32 0, .float .f32 0, .float .f32 0, .float .f32 0]], []⟩ 8 (by kernel_rfl) (by kernel_rfl) (by kernel_rfl) (by kernel_rfl)) ?_
  intro W base args ds gs before hval hW _ _
  refine law_step (tb := 4) hW laid_fnExactIsConvexFour (by kernel_rfl) rfl ?_ rfl (by kernel_rfl) ?_
  · intro ds hl
    have hl : ds.length = 1 := hl
    obtain ⟨d0, ds1, rfl, hl1⟩ := len_more hl
    obtain rfl := len_none hl1
    rfl
  have hl : args.toList.length = 1 := whole_len hW
  clear hW
  obtain ⟨ws⟩ := args
  simp only at hl
  obtain ⟨v0, as1, rfl, hl1⟩ := len_more hl
  obtain rfl := len_none hl1
  obtain ⟨l0, n0, c0, d0⟩ := open_floats (u := 22) (n := 8) (by kernel_rfl) (by kernel_rfl) (hval 0 24 v0 rfl rfl)
  obtain ⟨u0, t0_1, rfl, n0_1⟩ := len_more n0
  obtain ⟨u1, t0_2, rfl, n0_2⟩ := len_more n0_1
  obtain ⟨u2, t0_3, rfl, n0_3⟩ := len_more n0_2
  obtain ⟨u3, t0_4, rfl, n0_4⟩ := len_more n0_3
  obtain ⟨u4, t0_5, rfl, n0_5⟩ := len_more n0_4
  obtain ⟨u5, t0_6, rfl, n0_6⟩ := len_more n0_5
  obtain ⟨u6, t0_7, rfl, n0_7⟩ := len_more n0_6
  obtain ⟨u7, t0_8, rfl, n0_8⟩ := len_more n0_7
  obtain rfl := len_none n0_8
  refine law_calls (fn := Try.f3) ok_laws_FnExactIsConvexFour ⟨Try.func3, by kernel_rfl, by kernel_rfl⟩ ?_ (.cons d0 (.nil))
  exact congrArg (fun b => some [rB b]) (true_fnExactIsConvexFour u0 u1 u2 u3 u4 u5 u6 u7)

theorem fnExactIsConvexFour_holds : Rows.FnExactIsConvexFourSaid := OpenClaim.holds_of_wide 3 Try.f3 rfl rfl rfl rfl rfl rfl rfl ⟨rfl, rfl, rfl, rfl, rfl⟩ rfl rfl rfl rfl rfl (by kernel_rfl) Try.func3 (by kernel_rfl) (of_decide_eq_true (by kernel_rfl)) (by unfold Func.isWrapper; first | (rw [if_pos (by decide +kernel)]; kernel_rfl) | (rw [if_neg (by decide +kernel)]; exact ⟨rfl, rfl⟩))
  (fun os started H enc _ => lifted_fnExactIsConvexFour os started H enc)
end Go.Proofs.Ytkmijohkblmajaa
