/- The row of FnExactShadowOfPoint, out of the lifted law. -/
import Derived.Test.YtkmijohkblmajaaLftFnExactShadowOfPoint
import Derived.Test.YtkmijohkblmajaaLibJF
namespace Go.Proofs.Ytkmijohkblmajaa
open Go Go.RowKit Go.ChangeShapes Go.WideShapes Go.ChangeAt

theorem tie_fnExactShadowOfPoint : (joined25 Try.pinned.checked.prog 6 Try.f6 Rows.fnExactShadowOfPointSpec Rows.fnExactShadowOfPointRow && (joined26 Try.pinned.checked.prog 6 Try.f6 Rows.fnExactShadowOfPointSpec Rows.fnExactShadowOfPointRow && joined27 Try.pinned.checked.prog 6 Try.f6 Rows.fnExactShadowOfPointSpec Rows.fnExactShadowOfPointRow)) = true := by kernel_rfl
theorem tie0_fnExactShadowOfPoint : joined0 Try.pinned.checked.prog 6 Try.f6 Rows.fnExactShadowOfPointSpec Rows.fnExactShadowOfPointRow = true := by kernel_rfl
theorem tie1_fnExactShadowOfPoint : joined1 Try.pinned.checked.prog 6 Try.f6 Rows.fnExactShadowOfPointSpec Rows.fnExactShadowOfPointRow = true := by kernel_rfl
theorem tie2_fnExactShadowOfPoint : joined2 Try.pinned.checked.prog 6 Try.f6 Rows.fnExactShadowOfPointSpec Rows.fnExactShadowOfPointRow = true := by kernel_rfl
theorem tie3_fnExactShadowOfPoint : joined3 Try.pinned.checked.prog 6 Try.f6 Rows.fnExactShadowOfPointSpec Rows.fnExactShadowOfPointRow = true := by kernel_rfl
theorem tie4_fnExactShadowOfPoint : joined4 Try.pinned.checked.prog 6 Try.f6 Rows.fnExactShadowOfPointSpec Rows.fnExactShadowOfPointRow = true := by kernel_rfl
theorem tie5_fnExactShadowOfPoint : joined5 Try.pinned.checked.prog 6 Try.f6 Rows.fnExactShadowOfPointSpec Rows.fnExactShadowOfPointRow = true := by kernel_rfl
theorem tie6_fnExactShadowOfPoint : joined6 Try.pinned.checked.prog 6 Try.f6 Rows.fnExactShadowOfPointSpec Rows.fnExactShadowOfPointRow = true := by kernel_rfl
theorem tie7_fnExactShadowOfPoint : joined7 Try.pinned.checked.prog 6 Try.f6 Rows.fnExactShadowOfPointSpec Rows.fnExactShadowOfPointRow = true := by kernel_rfl
theorem tie8_fnExactShadowOfPoint : joined8 Try.pinned.checked.prog 6 Try.f6 Rows.fnExactShadowOfPointSpec Rows.fnExactShadowOfPointRow = true := by kernel_rfl
theorem tie9_fnExactShadowOfPoint : joined9 Try.pinned.checked.prog 6 Try.f6 Rows.fnExactShadowOfPointSpec Rows.fnExactShadowOfPointRow = true := by kernel_rfl
theorem tie10_fnExactShadowOfPoint : joined10 Try.pinned.checked.prog 6 Try.f6 Rows.fnExactShadowOfPointSpec Rows.fnExactShadowOfPointRow = true := by kernel_rfl
theorem tie11_fnExactShadowOfPoint : joined11 Try.pinned.checked.prog 6 Try.f6 Rows.fnExactShadowOfPointSpec Rows.fnExactShadowOfPointRow = true := by kernel_rfl
theorem tie12_fnExactShadowOfPoint : joined12 Try.pinned.checked.prog 6 Try.f6 Rows.fnExactShadowOfPointSpec Rows.fnExactShadowOfPointRow = true := by kernel_rfl
theorem tie13_fnExactShadowOfPoint : joined13 Try.pinned.checked.prog 6 Try.f6 Rows.fnExactShadowOfPointSpec Rows.fnExactShadowOfPointRow = true := by kernel_rfl
theorem tie14_fnExactShadowOfPoint : joined14 Try.pinned.checked.prog 6 Try.f6 Rows.fnExactShadowOfPointSpec Rows.fnExactShadowOfPointRow = true := by kernel_rfl
theorem tie15_fnExactShadowOfPoint : joined15 Try.pinned.checked.prog 6 Try.f6 Rows.fnExactShadowOfPointSpec Rows.fnExactShadowOfPointRow = true := by kernel_rfl
theorem tie16_fnExactShadowOfPoint : joined16 Try.pinned.checked.prog 6 Try.f6 Rows.fnExactShadowOfPointSpec Rows.fnExactShadowOfPointRow = true := by kernel_rfl
theorem tie17_fnExactShadowOfPoint : joined17 Try.pinned.checked.prog 6 Try.f6 Rows.fnExactShadowOfPointSpec Rows.fnExactShadowOfPointRow = true := by kernel_rfl
theorem tie18_fnExactShadowOfPoint : joined18 Try.pinned.checked.prog 6 Try.f6 Rows.fnExactShadowOfPointSpec Rows.fnExactShadowOfPointRow = true := by kernel_rfl
theorem tie19_fnExactShadowOfPoint : joined19 Try.pinned.checked.prog 6 Try.f6 Rows.fnExactShadowOfPointSpec Rows.fnExactShadowOfPointRow = true := by kernel_rfl
theorem tie20_fnExactShadowOfPoint : joined20 Try.pinned.checked.prog 6 Try.f6 Rows.fnExactShadowOfPointSpec Rows.fnExactShadowOfPointRow = true := by kernel_rfl
theorem tie21_fnExactShadowOfPoint : joined21 Try.pinned.checked.prog 6 Try.f6 Rows.fnExactShadowOfPointSpec Rows.fnExactShadowOfPointRow = true := by kernel_rfl
theorem tie22_fnExactShadowOfPoint : joined22 Try.pinned.checked.prog 6 Try.f6 Rows.fnExactShadowOfPointSpec Rows.fnExactShadowOfPointRow = true := by kernel_rfl
theorem tie23_fnExactShadowOfPoint : joined23 Try.pinned.checked.prog 6 Try.f6 Rows.fnExactShadowOfPointSpec Rows.fnExactShadowOfPointRow = true := by kernel_rfl
theorem tie24_fnExactShadowOfPoint : joined24 Try.pinned.checked.prog 6 Try.f6 Rows.fnExactShadowOfPointSpec Rows.fnExactShadowOfPointRow = true := by kernel_rfl
theorem tie28_fnExactShadowOfPoint : joined28 Try.pinned.checked.prog 6 Try.f6 Rows.fnExactShadowOfPointSpec Rows.fnExactShadowOfPointRow = true := by kernel_rfl
theorem tie29_fnExactShadowOfPoint : joined29 Try.pinned.checked.prog 6 Try.f6 Rows.fnExactShadowOfPointSpec Rows.fnExactShadowOfPointRow = true := by kernel_rfl
theorem tie30_fnExactShadowOfPoint : joined30 Try.pinned.checked.prog 6 Try.f6 Rows.fnExactShadowOfPointSpec Rows.fnExactShadowOfPointRow = true := by kernel_rfl
theorem tie31_fnExactShadowOfPoint : joined31 Try.pinned.checked.prog 6 Try.f6 Rows.fnExactShadowOfPointSpec Rows.fnExactShadowOfPointRow = true := by kernel_rfl
theorem ties_fnExactShadowOfPoint : joinedFacts Try.pinned.checked.prog 6 Try.f6 Rows.fnExactShadowOfPointSpec Rows.fnExactShadowOfPointRow = true := joined_of tie0_fnExactShadowOfPoint tie1_fnExactShadowOfPoint tie2_fnExactShadowOfPoint tie3_fnExactShadowOfPoint tie4_fnExactShadowOfPoint tie5_fnExactShadowOfPoint tie6_fnExactShadowOfPoint tie7_fnExactShadowOfPoint tie8_fnExactShadowOfPoint tie9_fnExactShadowOfPoint tie10_fnExactShadowOfPoint tie11_fnExactShadowOfPoint tie12_fnExactShadowOfPoint tie13_fnExactShadowOfPoint tie14_fnExactShadowOfPoint tie15_fnExactShadowOfPoint tie16_fnExactShadowOfPoint tie17_fnExactShadowOfPoint tie18_fnExactShadowOfPoint tie19_fnExactShadowOfPoint tie20_fnExactShadowOfPoint tie21_fnExactShadowOfPoint tie22_fnExactShadowOfPoint tie23_fnExactShadowOfPoint tie24_fnExactShadowOfPoint (Bool.and_eq_true_iff.1 tie_fnExactShadowOfPoint).1 (Bool.and_eq_true_iff.1 (Bool.and_eq_true_iff.1 tie_fnExactShadowOfPoint).2).1 (Bool.and_eq_true_iff.1 (Bool.and_eq_true_iff.1 tie_fnExactShadowOfPoint).2).2 tie28_fnExactShadowOfPoint tie29_fnExactShadowOfPoint tie30_fnExactShadowOfPoint tie31_fnExactShadowOfPoint
theorem fnExactShadowOfPoint_holds : Rows.FnExactShadowOfPointSaid := OpenClaim.holds_of_wide 6 Try.f6 rfl rfl rfl rfl rfl rfl rfl ⟨rfl, rfl, rfl, rfl, rfl⟩ rfl rfl rfl rfl rfl (by kernel_rfl) Try.func6 ties_fnExactShadowOfPoint (of_decide_eq_true (by kernel_rfl)) (by unfold Func.isWrapper; first | (rw [if_pos (by decide +kernel)]; kernel_rfl) | (rw [if_neg (by decide +kernel)]; exact ⟨rfl, rfl⟩))
  (fun os started H enc _ => lifted_fnExactShadowOfPoint os started H enc)
end Go.Proofs.Ytkmijohkblmajaa
