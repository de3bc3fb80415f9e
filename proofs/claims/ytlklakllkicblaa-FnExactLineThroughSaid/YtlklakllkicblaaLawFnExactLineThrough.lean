/- The law FnExactLineThrough holds at every input: the walked contracts of its functions, and equality of what the two sides compute. No condition besides the row's own. -/
import Derived.Test.YtlklakllkicblaaRows
import Derived.Test.YtlklakllkicblaaFn
import Derived.ProofKit
namespace Go.Proofs.Ytlklakllkicblaa
open Go Go.RowKit Go.ChangeShapes Go.WideShapes Go.ChangeAt

theorem own_fnExactLineThrough : ownKnob Try.prog.godebug = none := by kernel_rfl
theorem laid_fnExactLineThrough : laidOutB Try.prog = true := by kernel_rfl

theorem true_fnExactLineThrough (u0 : Nat) (u1 : Nat) (u2 : Nat) (u3 : Nat) : (bif (bif (!allC [sameD (fwide (lineOut (badS u0 u1 u2 u3) (nsub u1 u3) (nsub u2 u0) (minor u0 u1 u2 u3) (nsub u1 u3))) (fwide (lineOut (badS u0 u1 u2 u3) (nsub u1 u3) (nsub u2 u0) (minor u0 u1 u2 u3) (nsub u1 u3))), sameD (fwide (lineOut (badS u0 u1 u2 u3) (nsub u1 u3) (nsub u2 u0) (minor u0 u1 u2 u3) (nsub u2 u0))) (fwide (lineOut (badS u0 u1 u2 u3) (nsub u1 u3) (nsub u2 u0) (minor u0 u1 u2 u3) (nsub u2 u0))), sameD (fwide (lineOut (badS u0 u1 u2 u3) (nsub u1 u3) (nsub u2 u0) (minor u0 u1 u2 u3) (minor u0 u1 u2 u3))) (fwide (lineOut (badS u0 u1 u2 u3) (nsub u1 u3) (nsub u2 u0) (minor u0 u1 u2 u3) (minor u0 u1 u2 u3)))]) then true else ((((lineCod (badS u0 u1 u2 u3) (nsub u1 u3) (nsub u2 u0) (minor u0 u1 u2 u3))) : Int) != ((lineCod (badS u0 u1 u2 u3) (nsub u1 u3) (nsub u2 u0) (minor u0 u1 u2 u3))))) then false else true) = true := by
  simp [sameD_self, allC]

set_option maxRecDepth 100000 in
theorem lifted_fnExactLineThrough (os : Os) (started : os.Started) (H : Type) (enc : TypeId × Value → H) : ReturnsInHanded {} Try.checked os 4 .any (Rows.fnExactLineThroughSpec.pre6 enc Try.prog Try.f4 Rows.fnExactLineThroughRow.domain false) (Rows.fnExactLineThroughSpec.post enc Try.prog Try.f4 false true false false) := by
  refine returnsInHanded_of_change (C := Try.checked) own_fnExactLineThrough started (by kernel_rfl) Try.func4 (ChangeSpec.witness6 (enc := enc) (C := Try.checked) false ⟨#[], #[.agg #[.float .f32 0, .float .f32 0], .agg #[.float .f32 0, .float .f32 0]], []⟩ 8 (by kernel_rfl) (by kernel_rfl) (by kernel_rfl) (by kernel_rfl)) ?_
  intro W base args ds gs before hval hW _ _
  refine law_step (tb := 4) hW laid_fnExactLineThrough (by kernel_rfl) rfl ?_ rfl (by kernel_rfl) ?_
  · intro ds hl
    have hl : ds.length = 2 := hl
    obtain ⟨d0, ds1, rfl, hl1⟩ := len_more hl
    obtain ⟨d1, ds2, rfl, hl2⟩ := len_more hl1
    obtain rfl := len_none hl2
    rfl
  have hl : args.toList.length = 2 := whole_len hW
  clear hW
  obtain ⟨ws⟩ := args
  simp only at hl
  obtain ⟨v0, as1, rfl, hl1⟩ := len_more hl
  obtain ⟨v1, as2, rfl, hl2⟩ := len_more hl1
  obtain rfl := len_none hl2
  obtain ⟨l0, n0, c0, d0⟩ := open_floats (u := 22) (n := 2) (by kernel_rfl) (by kernel_rfl) (hval 0 24 v0 rfl rfl)
  obtain ⟨u0, t0_1, rfl, n0_1⟩ := len_more n0
  obtain ⟨u1, t0_2, rfl, n0_2⟩ := len_more n0_1
  obtain rfl := len_none n0_2
  obtain ⟨l1, n1, c1, d1⟩ := open_floats (u := 22) (n := 2) (by kernel_rfl) (by kernel_rfl) (hval 1 24 v1 rfl rfl)
  obtain ⟨u2, t1_1, rfl, n1_1⟩ := len_more n1
  obtain ⟨u3, t1_2, rfl, n1_2⟩ := len_more n1_1
  obtain rfl := len_none n1_2
  refine law_calls (fn := Try.f4) ok_laws_FnExactLineThrough ⟨Try.func4, by kernel_rfl, by kernel_rfl⟩ ?_ (.cons d0 (.cons d1 (.nil)))
  exact congrArg (fun b => some [rB b]) (true_fnExactLineThrough u0 u1 u2 u3)

theorem fnExactLineThrough_holds : Rows.FnExactLineThroughSaid := OpenClaim.holds_of_wide 4 Try.f4 rfl rfl rfl rfl rfl rfl rfl ⟨rfl, rfl, rfl, rfl, rfl⟩ rfl rfl rfl rfl rfl (by kernel_rfl) Try.func4 (by kernel_rfl) (of_decide_eq_true (by kernel_rfl)) (by unfold Func.isWrapper; first | (rw [if_pos (by decide +kernel)]; kernel_rfl) | (rw [if_neg (by decide +kernel)]; exact ⟨rfl, rfl⟩))
  (fun os started H enc _ => lifted_fnExactLineThrough os started H enc)
end Go.Proofs.Ytlklakllkicblaa
