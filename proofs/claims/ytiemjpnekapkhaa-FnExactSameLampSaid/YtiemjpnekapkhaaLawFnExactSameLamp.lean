/- The law FnExactSameLamp holds at every input: the walked contracts of its functions, and equality of what the two sides compute. No condition besides the row's own. -/
import Derived.Test.YtiemjpnekapkhaaRows
import Derived.Test.YtiemjpnekapkhaaFn
import Derived.ProofKit
namespace Go.Proofs.Ytiemjpnekapkhaa
open Go Go.RowKit Go.ChangeShapes Go.WideShapes Go.ChangeAt

theorem own_fnExactSameLamp : ownKnob Try.prog.godebug = none := by kernel_rfl
theorem laid_fnExactSameLamp : laidOutB Try.prog = true := by kernel_rfl

theorem true_fnExactSameLamp (u0 : Nat) (u1 : Nat) (u2 : Nat) (u3 : Bool) (u4 : Nat) (u5 : Nat) (u6 : Nat) (u7 : Nat) (u8 : Bool) (u9 : Nat) : (bif !(sameLamp u0 u1 u2 u3 u4 u5 u6 u7 u8 u9 == sameLamp u0 u1 u2 u3 u4 u5 u6 u7 u8 u9) then false else true) = true := by
  simp

set_option maxRecDepth 100000 in
theorem lifted_fnExactSameLamp (os : Os) (started : os.Started) (H : Type) (enc : TypeId × Value → H) : ReturnsInHanded {} Try.checked os 5 .any (Rows.fnExactSameLampSpec.pre6 enc Try.prog Try.f5 Rows.fnExactSameLampRow.domain false) (Rows.fnExactSameLampSpec.post enc Try.prog Try.f5 false true false false) := by
  refine returnsInHanded_of_change (C := Try.checked) own_fnExactSameLamp started (by kernel_rfl) Try.func5 (ChangeSpec.witness6 (enc := enc) (C := Try.checked) false ⟨#[], #[.agg #[.float .f32 0, .float .f32 0, .float .f32 0, .bool false, .float .f32 0], .agg #[.float .f32 0, .float .f32 0, .float .f32 0, .bool false, .float .f32 0]], []⟩ 8 (by kernel_rfl) (by kernel_rfl) (by kernel_rfl) (by kernel_rfl)) ?_
  intro W base args ds gs before hval hW _ _
  refine law_step (tb := 4) hW laid_fnExactSameLamp (by kernel_rfl) rfl ?_ rfl (by kernel_rfl) ?_
  · intro ds hl
    have hl : ds.length = 2 := hl
    obtain ⟨d0, ds1, rfl, hl1⟩ := len_more hl
    obtain ⟨d1, ds2, rfl, hl2⟩ := len_more hl1
    obtain rfl := len_none hl2
    rfl
  have hl : args.toList.length = 2 := whole_len hW
  clear hW
  obtain ⟨ws⟩ := args
  simp only at hl
  obtain ⟨v0, as1, rfl, hl1⟩ := len_more hl
  obtain ⟨v1, as2, rfl, hl2⟩ := len_more hl1
  obtain rfl := len_none hl2
  obtain ⟨l0, b0, i0, n0, nb0, ni0, c0, ci0, d0⟩ := open_mixed (ts := [22, 22, 22, 4, 22]) [.f, .f, .f, .b, .f] (by kernel_rfl) (by kernel_rfl) (hval 0 37 v0 rfl rfl)
  obtain ⟨u0, tf0_1, rfl, nf0_1⟩ := len_more n0
  obtain ⟨u1, tf0_2, rfl, nf0_2⟩ := len_more nf0_1
  obtain ⟨u2, tf0_3, rfl, nf0_3⟩ := len_more nf0_2
  obtain ⟨u4, tf0_4, rfl, nf0_4⟩ := len_more nf0_3
  obtain rfl := len_none nf0_4
  obtain ⟨u3, tb0_1, rfl, nb0_1⟩ := len_more nb0
  obtain rfl := len_none nb0_1
  obtain rfl := len_none ni0
  obtain ⟨l1, b1, i1, n1, nb1, ni1, c1, ci1, d1⟩ := open_mixed (ts := [22, 22, 22, 4, 22]) [.f, .f, .f, .b, .f] (by kernel_rfl) (by kernel_rfl) (hval 1 37 v1 rfl rfl)
  obtain ⟨u5, tf1_1, rfl, nf1_1⟩ := len_more n1
  obtain ⟨u6, tf1_2, rfl, nf1_2⟩ := len_more nf1_1
  obtain ⟨u7, tf1_3, rfl, nf1_3⟩ := len_more nf1_2
  obtain ⟨u9, tf1_4, rfl, nf1_4⟩ := len_more nf1_3
  obtain rfl := len_none nf1_4
  obtain ⟨u8, tb1_1, rfl, nb1_1⟩ := len_more nb1
  obtain rfl := len_none nb1_1
  obtain rfl := len_none ni1
  refine law_calls (fn := Try.f5) ok_laws_FnExactSameLamp ⟨Try.func5, by kernel_rfl, by kernel_rfl⟩ ?_ (.cons d0 (.cons d1 (.nil)))
  exact congrArg (fun b => some [rB b]) (true_fnExactSameLamp u0 u1 u2 u3 u4 u5 u6 u7 u8 u9)

theorem fnExactSameLamp_holds : Rows.FnExactSameLampSaid := OpenClaim.holds_of_wide 5 Try.f5 rfl rfl rfl rfl rfl rfl rfl ⟨rfl, rfl, rfl, rfl, rfl⟩ rfl rfl rfl rfl rfl (by kernel_rfl) Try.func5 (by kernel_rfl) (of_decide_eq_true (by kernel_rfl)) (by unfold Func.isWrapper; first | (rw [if_pos (by decide +kernel)]; kernel_rfl) | (rw [if_neg (by decide +kernel)]; exact ⟨rfl, rfl⟩))
  (fun os started H enc _ => lifted_fnExactSameLamp os started H enc)
end Go.Proofs.Ytiemjpnekapkhaa
