/- The law FnExactMeasureFrom holds at every input: the walked contracts of its functions, and equality of what the two sides compute. No condition besides the row's own. -/
import Derived.Test.YtlklakllkicblaaRows
import Derived.Test.YtlklakllkicblaaFn
import Derived.ProofKit
namespace Go.Proofs.Ytlklakllkicblaa
open Go Go.RowKit Go.ChangeShapes Go.WideShapes Go.ChangeAt

theorem own_fnExactMeasureFrom : ownKnob Try.prog.godebug = none := by kernel_rfl
theorem laid_fnExactMeasureFrom : laidOutB Try.prog = true := by kernel_rfl

theorem true_fnExactMeasureFrom (u0 : Nat) (u1 : Nat) (u2 : Nat) (u3 : Nat) (u4 : Nat) (u5 : Nat) (u6 : Nat) (u7 : Nat) (u8 : Nat) : (bif (bif (!sameD (fwide ((sel (badK u0 u1 u2 u3 u4 u5 u6 u7 u8) (rat (measN (far u0 u1 u4 u5) u0 u1 u2 u3 u4 u5 u6 u7 u8) (measD (far u0 u1 u4 u5) u0 u1 u2 u3 u4 u5 u6 u7))))) (fwide ((sel (badK u0 u1 u2 u3 u4 u5 u6 u7 u8) (rat (measN (far u0 u1 u4 u5) u0 u1 u2 u3 u4 u5 u6 u7 u8) (measD (far u0 u1 u4 u5) u0 u1 u2 u3 u4 u5 u6 u7)))))) then true else ((((cod (badK u0 u1 u2 u3 u4 u5 u6 u7 u8) 1 (ratC (measD (far u0 u1 u4 u5) u0 u1 u2 u3 u4 u5 u6 u7) (measN (far u0 u1 u4 u5) u0 u1 u2 u3 u4 u5 u6 u7 u8)))) : Int) != ((cod (badK u0 u1 u2 u3 u4 u5 u6 u7 u8) 1 (ratC (measD (far u0 u1 u4 u5) u0 u1 u2 u3 u4 u5 u6 u7) (measN (far u0 u1 u4 u5) u0 u1 u2 u3 u4 u5 u6 u7 u8)))))) then false else true) = true := by
  simp [sameD_self, allC, allC_same, allC_true]

set_option maxRecDepth 100000 in
theorem lifted_fnExactMeasureFrom (os : Os) (started : os.Started) (H : Type) (enc : TypeId × Value → H) : ReturnsInHanded {} Try.checked os 6 .any (Rows.fnExactMeasureFromSpec.pre6 enc Try.prog Try.f6 Rows.fnExactMeasureFromRow.domain false) (Rows.fnExactMeasureFromSpec.post enc Try.prog Try.f6 false true false false) := by
  refine returnsInHanded_of_change (C := Try.checked) own_fnExactMeasureFrom started (by kernel_rfl) Try.func6 (ChangeSpec.witness6 (enc := enc) (C := Try.checked) false ⟨#[], #[.agg #[.float .f32 0, .float .f32 0], .agg #[.float .f32 0, .float .f32 0], .agg #[.float .f32 0, .float .f32 0], .agg #[.float .f32 0, .float .f32 0], .float .f32 0], []⟩ 8 (by kernel_rfl) (by kernel_rfl) (by kernel_rfl) (by kernel_rfl)) ?_
  intro W base args ds gs before hval hW _ _
  refine law_step (tb := 4) hW laid_fnExactMeasureFrom (by kernel_rfl) rfl ?_ rfl (by kernel_rfl) ?_
  · intro ds hl
    have hl : ds.length = 5 := hl
    obtain ⟨d0, ds1, rfl, hl1⟩ := len_more hl
    obtain ⟨d1, ds2, rfl, hl2⟩ := len_more hl1
    obtain ⟨d2, ds3, rfl, hl3⟩ := len_more hl2
    obtain ⟨d3, ds4, rfl, hl4⟩ := len_more hl3
    obtain ⟨d4, ds5, rfl, hl5⟩ := len_more hl4
    obtain rfl := len_none hl5
    rfl
  have hl : args.toList.length = 5 := whole_len hW
  clear hW
  obtain ⟨ws⟩ := args
  simp only at hl
  obtain ⟨v0, as1, rfl, hl1⟩ := len_more hl
  obtain ⟨v1, as2, rfl, hl2⟩ := len_more hl1
  obtain ⟨v2, as3, rfl, hl3⟩ := len_more hl2
  obtain ⟨v3, as4, rfl, hl4⟩ := len_more hl3
  obtain ⟨v4, as5, rfl, hl5⟩ := len_more hl4
  obtain rfl := len_none hl5
  obtain ⟨l0, n0, c0, d0⟩ := open_floats (u := 22) (n := 2) (by kernel_rfl) (by kernel_rfl) (hval 0 24 v0 rfl rfl)
  obtain ⟨u0, t0_1, rfl, n0_1⟩ := len_more n0
  obtain ⟨u1, t0_2, rfl, n0_2⟩ := len_more n0_1
  obtain rfl := len_none n0_2
  obtain ⟨l1, n1, c1, d1⟩ := open_floats (u := 22) (n := 2) (by kernel_rfl) (by kernel_rfl) (hval 1 24 v1 rfl rfl)
  obtain ⟨u2, t1_1, rfl, n1_1⟩ := len_more n1
  obtain ⟨u3, t1_2, rfl, n1_2⟩ := len_more n1_1
  obtain rfl := len_none n1_2
  obtain ⟨l2, n2, c2, d2⟩ := open_floats (u := 22) (n := 2) (by kernel_rfl) (by kernel_rfl) (hval 2 24 v2 rfl rfl)
  obtain ⟨u4, t2_1, rfl, n2_1⟩ := len_more n2
  obtain ⟨u5, t2_2, rfl, n2_2⟩ := len_more n2_1
  obtain rfl := len_none n2_2
  obtain ⟨l3, n3, c3, d3⟩ := open_floats (u := 22) (n := 2) (by kernel_rfl) (by kernel_rfl) (hval 3 24 v3 rfl rfl)
  obtain ⟨u6, t3_1, rfl, n3_1⟩ := len_more n3
  obtain ⟨u7, t3_2, rfl, n3_2⟩ := len_more n3_1
  obtain rfl := len_none n3_2
  obtain ⟨u8, c4, d4⟩ := open_float (by kernel_rfl) (by kernel_rfl) (hval 4 22 v4 rfl rfl)
  refine law_calls (fn := Try.f6) ok_laws_FnExactMeasureFrom ⟨Try.func6, by kernel_rfl, by kernel_rfl⟩ ?_ (.cons d0 (.cons d1 (.cons d2 (.cons d3 (.cons d4 (.nil))))))
  exact congrArg (fun b => some [rB b]) (true_fnExactMeasureFrom u0 u1 u2 u3 u4 u5 u6 u7 u8)

theorem fnExactMeasureFrom_holds : Rows.FnExactMeasureFromSaid := OpenClaim.holds_of_wide 6 Try.f6 rfl rfl rfl rfl rfl rfl rfl ⟨rfl, rfl, rfl, rfl, rfl⟩ rfl rfl rfl rfl rfl (by kernel_rfl) Try.func6 (by kernel_rfl) (of_decide_eq_true (by kernel_rfl)) (by unfold Func.isWrapper; first | (rw [if_pos (by decide +kernel)]; kernel_rfl) | (rw [if_neg (by decide +kernel)]; exact ⟨rfl, rfl⟩))
  (fun os started H enc _ => lifted_fnExactMeasureFrom os started H enc)
end Go.Proofs.Ytlklakllkicblaa
