/- The law FnExactInvertMap holds at every input: the walked contracts of its functions, and equality of what the two sides compute. No condition besides the row's own. -/
import Derived.Test.YtlklakllkicblaaRows
import Derived.Test.YtlklakllkicblaaFn
import Derived.ProofKit
namespace Go.Proofs.Ytlklakllkicblaa
open Go Go.RowKit Go.ChangeShapes Go.WideShapes Go.ChangeAt

theorem own_fnExactInvertMap : ownKnob Try.prog.godebug = none := by kernel_rfl
theorem laid_fnExactInvertMap : laidOutB Try.prog = true := by kernel_rfl

theorem true_fnExactInvertMap (u0 : Nat) (u1 : Nat) (u2 : Nat) (u3 : Nat) (u4 : Nat) (u5 : Nat) (u6 : Nat) (u7 : Nat) (u8 : Nat) : (bif (bif (!allC (List.map (fun x => sameD (fwide x) (fwide x)) (List.map (sel (!validMap u0 u1 u2 u3 u4 u5 u6 u7 u8)) (scaledOut (adj u0 u1 u2 u3 u4 u5 u6 u7 u8))))) then true else (((cod (!validMap u0 u1 u2 u3 u4 u5 u6 u7 u8) 1 (scaledCod (adj u0 u1 u2 u3 u4 u5 u6 u7 u8))) : Int) != (cod (!validMap u0 u1 u2 u3 u4 u5 u6 u7 u8) 1 (scaledCod (adj u0 u1 u2 u3 u4 u5 u6 u7 u8))))) then false else true) = true := by
  simp [sameD_self, allC, allC_same, allC_true]

set_option maxRecDepth 100000 in
theorem lifted_fnExactInvertMap (os : Os) (started : os.Started) (H : Type) (enc : TypeId × Value → H) : ReturnsInHanded {} Try.checked os 12 .any (Rows.fnExactInvertMapSpec.pre6 enc Try.prog Try.f12 Rows.fnExactInvertMapRow.domain false) (Rows.fnExactInvertMapSpec.post enc Try.prog Try.f12 false true false false) := by
  refine returnsInHanded_of_change (C := Try.checked) own_fnExactInvertMap started (by kernel_rfl) Try.func12 (ChangeSpec.witness6 (enc := enc) (C := Try.checked) false ⟨#[], #[.agg #[.float .f32 0, .float .f32 0, .float .f32 0, .float .f32 0, .float .f32 0, .float .f32 0, .float .f32 0, .float .f32 0, .float .f32 0]], []⟩ 8 (by kernel_rfl) (by kernel_rfl) (by kernel_rfl) (by kernel_rfl)) ?_
  intro W base args ds gs before hval hW _ _
  refine law_step (tb := 4) hW laid_fnExactInvertMap (by kernel_rfl) rfl ?_ rfl (by kernel_rfl) ?_
  · intro ds hl
    have hl : ds.length = 1 := hl
    obtain ⟨d0, ds1, rfl, hl1⟩ := len_more hl
    obtain rfl := len_none hl1
    rfl
  have hl : args.toList.length = 1 := whole_len hW
  clear hW
  obtain ⟨ws⟩ := args
  simp only at hl
  obtain ⟨v0, as1, rfl, hl1⟩ := len_more hl
  obtain rfl := len_none hl1
  obtain ⟨l0, n0, c0, d0⟩ := open_floats (u := 22) (n := 9) (by kernel_rfl) (by kernel_rfl) (hval 0 50 v0 rfl rfl)
  obtain ⟨u0, t0_1, rfl, n0_1⟩ := len_more n0
  obtain ⟨u1, t0_2, rfl, n0_2⟩ := len_more n0_1
  obtain ⟨u2, t0_3, rfl, n0_3⟩ := len_more n0_2
  obtain ⟨u3, t0_4, rfl, n0_4⟩ := len_more n0_3
  obtain ⟨u4, t0_5, rfl, n0_5⟩ := len_more n0_4
  obtain ⟨u5, t0_6, rfl, n0_6⟩ := len_more n0_5
  obtain ⟨u6, t0_7, rfl, n0_7⟩ := len_more n0_6
  obtain ⟨u7, t0_8, rfl, n0_8⟩ := len_more n0_7
  obtain ⟨u8, t0_9, rfl, n0_9⟩ := len_more n0_8
  obtain rfl := len_none n0_9
  refine law_calls (fn := Try.f12) ok_laws_FnExactInvertMap ⟨Try.func12, by kernel_rfl, by kernel_rfl⟩ ?_ (.cons d0 (.nil))
  exact congrArg (fun b => some [rB b]) (true_fnExactInvertMap u0 u1 u2 u3 u4 u5 u6 u7 u8)

theorem fnExactInvertMap_holds : Rows.FnExactInvertMapSaid := OpenClaim.holds_of_wide 12 Try.f12 rfl rfl rfl rfl rfl rfl rfl ⟨rfl, rfl, rfl, rfl, rfl⟩ rfl rfl rfl rfl rfl (by kernel_rfl) Try.func12 (by kernel_rfl) (of_decide_eq_true (by kernel_rfl)) (by unfold Func.isWrapper; first | (rw [if_pos (by decide +kernel)]; kernel_rfl) | (rw [if_neg (by decide +kernel)]; exact ⟨rfl, rfl⟩))
  (fun os started H enc _ => lifted_fnExactInvertMap os started H enc)
end Go.Proofs.Ytlklakllkicblaa
