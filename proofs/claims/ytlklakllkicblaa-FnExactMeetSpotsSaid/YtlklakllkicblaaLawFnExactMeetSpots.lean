/- The law FnExactMeetSpots holds at every input: the walked contracts of its functions, and equality of what the two sides compute. No condition besides the row's own. -/
import Derived.Test.YtlklakllkicblaaRows
import Derived.Test.YtlklakllkicblaaFn
import Derived.ProofKit
namespace Go.Proofs.Ytlklakllkicblaa
open Go Go.RowKit Go.ChangeShapes Go.WideShapes Go.ChangeAt

theorem own_fnExactMeetSpots : ownKnob Try.prog.godebug = none := by kernel_rfl
theorem laid_fnExactMeetSpots : laidOutB Try.prog = true := by kernel_rfl

theorem true_fnExactMeetSpots (u0 : Nat) (u1 : Nat) (u2 : Nat) (u3 : Nat) (u4 : Nat) (u5 : Nat) : (bif (bif (!allC [sameD (fwide (two (bad2 u0 u1 u2 u3 u4 u5) (small (minor u0 u1 u3 u4)) fin2 (meetX u0 u1 u2 u3 u4 u5) (meetY u0 u1 u2 u3 u4 u5) (meetX u0 u1 u2 u3 u4 u5))) (fwide (two (bad2 u0 u1 u2 u3 u4 u5) (small (minor u0 u1 u3 u4)) fin2 (meetX u0 u1 u2 u3 u4 u5) (meetY u0 u1 u2 u3 u4 u5) (meetX u0 u1 u2 u3 u4 u5))), sameD (fwide (two (bad2 u0 u1 u2 u3 u4 u5) (small (minor u0 u1 u3 u4)) fin2 (meetX u0 u1 u2 u3 u4 u5) (meetY u0 u1 u2 u3 u4 u5) (meetY u0 u1 u2 u3 u4 u5))) (fwide (two (bad2 u0 u1 u2 u3 u4 u5) (small (minor u0 u1 u3 u4)) fin2 (meetX u0 u1 u2 u3 u4 u5) (meetY u0 u1 u2 u3 u4 u5) (meetY u0 u1 u2 u3 u4 u5)))]) then true else ((((twoC (bad2 u0 u1 u2 u3 u4 u5) (small (minor u0 u1 u3 u4)) fin2 (meetX u0 u1 u2 u3 u4 u5) (meetY u0 u1 u2 u3 u4 u5))) : Int) != ((twoC (bad2 u0 u1 u2 u3 u4 u5) (small (minor u0 u1 u3 u4)) fin2 (meetX u0 u1 u2 u3 u4 u5) (meetY u0 u1 u2 u3 u4 u5))))) then false else true) = true := by
  simp [sameD_self, allC]

set_option maxRecDepth 100000 in
theorem lifted_fnExactMeetSpots (os : Os) (started : os.Started) (H : Type) (enc : TypeId × Value → H) : ReturnsInHanded {} Try.checked os 3 .any (Rows.fnExactMeetSpotsSpec.pre6 enc Try.prog Try.f3 Rows.fnExactMeetSpotsRow.domain false) (Rows.fnExactMeetSpotsSpec.post enc Try.prog Try.f3 false true false false) := by
  refine returnsInHanded_of_change (C := Try.checked) own_fnExactMeetSpots started (by kernel_rfl) Try.func3 (ChangeSpec.witness6 (enc := enc) (C := Try.checked) false ⟨#[], #[.agg #[.float .f32 0, .float .f32 0, .float .f32 0], .agg #[.float .f32 0, .float .f32 0, .float .f32 0]], []⟩ 8 (by kernel_rfl) (by kernel_rfl) (by kernel_rfl) (by kernel_rfl)) ?_
  intro W base args ds gs before hval hW _ _
  refine law_step (tb := 4) hW laid_fnExactMeetSpots (by kernel_rfl) rfl ?_ rfl (by kernel_rfl) ?_
  · intro ds hl
    have hl : ds.length = 2 := hl
    obtain ⟨d0, ds1, rfl, hl1⟩ := len_more hl
    obtain ⟨d1, ds2, rfl, hl2⟩ := len_more hl1
    obtain rfl := len_none hl2
    rfl
  have hl : args.toList.length = 2 := whole_len hW
  clear hW
  obtain ⟨ws⟩ := args
  simp only at hl
  obtain ⟨v0, as1, rfl, hl1⟩ := len_more hl
  obtain ⟨v1, as2, rfl, hl2⟩ := len_more hl1
  obtain rfl := len_none hl2
  obtain ⟨l0, n0, c0, d0⟩ := open_floats (u := 22) (n := 3) (by kernel_rfl) (by kernel_rfl) (hval 0 23 v0 rfl rfl)
  obtain ⟨u0, t0_1, rfl, n0_1⟩ := len_more n0
  obtain ⟨u1, t0_2, rfl, n0_2⟩ := len_more n0_1
  obtain ⟨u2, t0_3, rfl, n0_3⟩ := len_more n0_2
  obtain rfl := len_none n0_3
  obtain ⟨l1, n1, c1, d1⟩ := open_floats (u := 22) (n := 3) (by kernel_rfl) (by kernel_rfl) (hval 1 23 v1 rfl rfl)
  obtain ⟨u3, t1_1, rfl, n1_1⟩ := len_more n1
  obtain ⟨u4, t1_2, rfl, n1_2⟩ := len_more n1_1
  obtain ⟨u5, t1_3, rfl, n1_3⟩ := len_more n1_2
  obtain rfl := len_none n1_3
  refine law_calls (fn := Try.f3) ok_laws_FnExactMeetSpots ⟨Try.func3, by kernel_rfl, by kernel_rfl⟩ ?_ (.cons d0 (.cons d1 (.nil)))
  exact congrArg (fun b => some [rB b]) (true_fnExactMeetSpots u0 u1 u2 u3 u4 u5)

theorem fnExactMeetSpots_holds : Rows.FnExactMeetSpotsSaid := OpenClaim.holds_of_wide 3 Try.f3 rfl rfl rfl rfl rfl rfl rfl ⟨rfl, rfl, rfl, rfl, rfl⟩ rfl rfl rfl rfl rfl (by kernel_rfl) Try.func3 (by kernel_rfl) (of_decide_eq_true (by kernel_rfl)) (by unfold Func.isWrapper; first | (rw [if_pos (by decide +kernel)]; kernel_rfl) | (rw [if_neg (by decide +kernel)]; exact ⟨rfl, rfl⟩))
  (fun os started H enc _ => lifted_fnExactMeetSpots os started H enc)
end Go.Proofs.Ytlklakllkicblaa
