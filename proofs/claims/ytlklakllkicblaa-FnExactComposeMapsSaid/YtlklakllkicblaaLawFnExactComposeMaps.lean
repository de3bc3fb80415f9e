/- The law FnExactComposeMaps holds at every input: the walked contracts of its functions, and equality of what the two sides compute. No condition besides the row's own. -/
import Derived.Test.YtlklakllkicblaaRows
import Derived.Test.YtlklakllkicblaaFn
import Derived.ProofKit
namespace Go.Proofs.Ytlklakllkicblaa
open Go Go.RowKit Go.ChangeShapes Go.WideShapes Go.ChangeAt

theorem own_fnExactComposeMaps : ownKnob Try.prog.godebug = none := by kernel_rfl
theorem laid_fnExactComposeMaps : laidOutB Try.prog = true := by kernel_rfl

theorem true_fnExactComposeMaps (u0 : Nat) (u1 : Nat) (u2 : Nat) (u3 : Nat) (u4 : Nat) (u5 : Nat) (u6 : Nat) (u7 : Nat) (u8 : Nat) (u9 : Nat) (u10 : Nat) (u11 : Nat) (u12 : Nat) (u13 : Nat) (u14 : Nat) (u15 : Nat) (u16 : Nat) (u17 : Nat) : (bif (bif (!allC (List.map (fun x => sameD (fwide x) (fwide x)) (List.map (sel (bad2M u0 u1 u2 u3 u4 u5 u6 u7 u8 u9 u10 u11 u12 u13 u14 u15 u16 u17)) (scaledOut (comp u0 u1 u2 u3 u4 u5 u6 u7 u8 u9 u10 u11 u12 u13 u14 u15 u16 u17))))) then true else (((cod (bad2M u0 u1 u2 u3 u4 u5 u6 u7 u8 u9 u10 u11 u12 u13 u14 u15 u16 u17) 1 (scaledCod (comp u0 u1 u2 u3 u4 u5 u6 u7 u8 u9 u10 u11 u12 u13 u14 u15 u16 u17))) : Int) != (cod (bad2M u0 u1 u2 u3 u4 u5 u6 u7 u8 u9 u10 u11 u12 u13 u14 u15 u16 u17) 1 (scaledCod (comp u0 u1 u2 u3 u4 u5 u6 u7 u8 u9 u10 u11 u12 u13 u14 u15 u16 u17))))) then false else true) = true := by
  simp [sameD_self, allC, allC_same, allC_true]

set_option maxRecDepth 100000 in
theorem lifted_fnExactComposeMaps (os : Os) (started : os.Started) (H : Type) (enc : TypeId × Value → H) : ReturnsInHanded {} Try.checked os 13 .any (Rows.fnExactComposeMapsSpec.pre6 enc Try.prog Try.f13 Rows.fnExactComposeMapsRow.domain false) (Rows.fnExactComposeMapsSpec.post enc Try.prog Try.f13 false true false false) := by
  refine returnsInHanded_of_change (C := Try.checked) own_fnExactComposeMaps started (by kernel_rfl) Try.func13 (ChangeSpec.witness6 (enc := enc) (C := Try.checked) false ⟨#[], #[.agg #[.float .f32 0, .float .f32 0, .float .f32 0, .float .f32 0, .float .f32 0, .float .f32 0, .float .f32 0, .float .f32 0, .float .f32 0], .agg #[.float .f32 0, .float .f32 0, .float .f32 0, .float .f32 0, .float .f32 0, .float .f32 0, .float .f32 0, .float .f32 0, .float .f32 0]], []⟩ 8 (by kernel_rfl) (by kernel_rfl) (by kernel_rfl) (by kernel_rfl)) ?_
  intro W base args ds gs before hval hW _ _
  refine law_step (tb := 4) hW laid_fnExactComposeMaps (by kernel_rfl) rfl ?_ rfl (by kernel_rfl) ?_
  · intro ds hl
    have hl : ds.length = 2 := hl
    obtain ⟨d0, ds1, rfl, hl1⟩ := len_more hl
    obtain ⟨d1, ds2, rfl, hl2⟩ := len_more hl1
    obtain rfl := len_none hl2
    rfl
  have hl : args.toList.length = 2 := whole_len hW
  clear hW
  obtain ⟨ws⟩ := args
  simp only at hl
  obtain ⟨v0, as1, rfl, hl1⟩ := len_more hl
  obtain ⟨v1, as2, rfl, hl2⟩ := len_more hl1
  obtain rfl := len_none hl2
  obtain ⟨l0, n0, c0, d0⟩ := open_floats (u := 22) (n := 9) (by kernel_rfl) (by kernel_rfl) (hval 0 50 v0 rfl rfl)
  obtain ⟨u0, t0_1, rfl, n0_1⟩ := len_more n0
  obtain ⟨u1, t0_2, rfl, n0_2⟩ := len_more n0_1
  obtain ⟨u2, t0_3, rfl, n0_3⟩ := len_more n0_2
  obtain ⟨u3, t0_4, rfl, n0_4⟩ := len_more n0_3
  obtain ⟨u4, t0_5, rfl, n0_5⟩ := len_more n0_4
  obtain ⟨u5, t0_6, rfl, n0_6⟩ := len_more n0_5
  obtain ⟨u6, t0_7, rfl, n0_7⟩ := len_more n0_6
  obtain ⟨u7, t0_8, rfl, n0_8⟩ := len_more n0_7
  obtain ⟨u8, t0_9, rfl, n0_9⟩ := len_more n0_8
  obtain rfl := len_none n0_9
  obtain ⟨l1, n1, c1, d1⟩ := open_floats (u := 22) (n := 9) (by kernel_rfl) (by kernel_rfl) (hval 1 50 v1 rfl rfl)
  obtain ⟨u9, t1_1, rfl, n1_1⟩ := len_more n1
  obtain ⟨u10, t1_2, rfl, n1_2⟩ := len_more n1_1
  obtain ⟨u11, t1_3, rfl, n1_3⟩ := len_more n1_2
  obtain ⟨u12, t1_4, rfl, n1_4⟩ := len_more n1_3
  obtain ⟨u13, t1_5, rfl, n1_5⟩ := len_more n1_4
  obtain ⟨u14, t1_6, rfl, n1_6⟩ := len_more n1_5
  obtain ⟨u15, t1_7, rfl, n1_7⟩ := len_more n1_6
  obtain ⟨u16, t1_8, rfl, n1_8⟩ := len_more n1_7
  obtain ⟨u17, t1_9, rfl, n1_9⟩ := len_more n1_8
  obtain rfl := len_none n1_9
  refine law_calls (fn := Try.f13) ok_laws_FnExactComposeMaps ⟨Try.func13, by kernel_rfl, by kernel_rfl⟩ ?_ (.cons d0 (.cons d1 (.nil)))
  exact congrArg (fun b => some [rB b]) (true_fnExactComposeMaps u0 u1 u2 u3 u4 u5 u6 u7 u8 u9 u10 u11 u12 u13 u14 u15 u16 u17)

theorem fnExactComposeMaps_holds : Rows.FnExactComposeMapsSaid := OpenClaim.holds_of_wide 13 Try.f13 rfl rfl rfl rfl rfl rfl rfl ⟨rfl, rfl, rfl, rfl, rfl⟩ rfl rfl rfl rfl rfl (by kernel_rfl) Try.func13 (by kernel_rfl) (of_decide_eq_true (by kernel_rfl)) (by unfold Func.isWrapper; first | (rw [if_pos (by decide +kernel)]; kernel_rfl) | (rw [if_neg (by decide +kernel)]; exact ⟨rfl, rfl⟩))
  (fun os started H enc _ => lifted_fnExactComposeMaps os started H enc)
end Go.Proofs.Ytlklakllkicblaa
