/- The law FnExactShadowOfPoint holds at every input: the walked contracts of its functions, and equality of what the two sides compute. No condition besides the row's own. -/
import Derived.Test.YtkmijohkblmajaaRows
import Derived.Test.YtkmijohkblmajaaFn
import Derived.ProofKit
namespace Go.Proofs.Ytkmijohkblmajaa
open Go Go.RowKit Go.ChangeShapes Go.WideShapes Go.ChangeAt

theorem own_fnExactShadowOfPoint : ownKnob Try.prog.godebug = none := by kernel_rfl
theorem laid_fnExactShadowOfPoint : laidOutB Try.prog = true := by kernel_rfl

theorem true_fnExactShadowOfPoint (u0 : Nat) (u1 : Nat) (u2 : Nat) (u3 : Bool) (u4 : Nat) (u5 : Nat) (u6 : Nat) (u7 : Nat) (u8 : Nat) (u9 : Nat) (u10 : Nat) (u11 : Nat) : (bif (bif (!allC (List.map (fun u9 => sameD (fwide u9) (fwide u9)) ((shOut u3 u0 u1 u2 u5 u6 u7 u8 u9 u10 u11).map (sel (badSh u0 u1 u2 u3 u4 u5 u6 u7 u8 u9 u10 u11))))) then true else (((cod (badSh u0 u1 u2 u3 u4 u5 u6 u7 u8 u9 u10 u11) 1 (shCod u3 u0 u1 u2 u5 u6 u7 u8 u9 u10 u11)) : Int) != (cod (badSh u0 u1 u2 u3 u4 u5 u6 u7 u8 u9 u10 u11) 1 (shCod u3 u0 u1 u2 u5 u6 u7 u8 u9 u10 u11)))) then false else true) = true := by
  simp [sameD_self, allC, allC_same, allC_true]

set_option maxRecDepth 100000 in
theorem lifted_fnExactShadowOfPoint (os : Os) (started : os.Started) (H : Type) (enc : TypeId × Value → H) : ReturnsInHanded {} Try.checked os 6 .any (Rows.fnExactShadowOfPointSpec.pre6 enc Try.prog Try.f6 Rows.fnExactShadowOfPointRow.domain false) (Rows.fnExactShadowOfPointSpec.post enc Try.prog Try.f6 false true false false) := by
  refine returnsInHanded_of_change (C := Try.checked) own_fnExactShadowOfPoint started (by kernel_rfl) Try.func6 (ChangeSpec.witness6 (enc := enc) (C := Try.checked) false ⟨#[], #[.agg #[.float .f32 0, .float .f32 0, .float .f32 0, .bool false, .float .f32 0], .agg #[.float .f32 0, .float .f32 0, .float .f32 0, .float .f32 0], .agg #[.float .f32 0, .float .f32 0, .float .f32 0]], []⟩ 8 (by kernel_rfl) (by kernel_rfl) (by kernel_rfl) (by kernel_rfl)) ?_
  intro W base args ds gs before hval hW _ _
  refine law_step (tb := 4) hW laid_fnExactShadowOfPoint (by kernel_rfl) rfl ?_ rfl (by kernel_rfl) ?_
  · intro ds hl
    have hl : ds.length = 3 := hl
    obtain ⟨d0, ds1, rfl, hl1⟩ := len_more hl
    obtain ⟨d1, ds2, rfl, hl2⟩ := len_more hl1
    obtain ⟨d2, ds3, rfl, hl3⟩ := len_more hl2
    obtain rfl := len_none hl3
    rfl
  have hl : args.toList.length = 3 := whole_len hW
  clear hW
  obtain ⟨ws⟩ := args
  simp only at hl
  obtain ⟨v0, as1, rfl, hl1⟩ := len_more hl
  obtain ⟨v1, as2, rfl, hl2⟩ := len_more hl1
  obtain ⟨v2, as3, rfl, hl3⟩ := len_more hl2
  obtain rfl := len_none hl3
  obtain ⟨l0, b0, i0, n0, nb0, ni0, c0, ci0, d0⟩ := open_mixed (ts := [22, 22, 22, 4, 22]) [.f, .f, .f, .b, .f] (by kernel_rfl) (by kernel_rfl) (hval 0 48 v0 rfl rfl)
  obtain ⟨u0, tf0_1, rfl, nf0_1⟩ := len_more n0
  obtain ⟨u1, tf0_2, rfl, nf0_2⟩ := len_more nf0_1
  obtain ⟨u2, tf0_3, rfl, nf0_3⟩ := len_more nf0_2
  obtain ⟨u4, tf0_4, rfl, nf0_4⟩ := len_more nf0_3
  obtain rfl := len_none nf0_4
  obtain ⟨u3, tb0_1, rfl, nb0_1⟩ := len_more nb0
  obtain rfl := len_none nb0_1
  obtain rfl := len_none ni0
  obtain ⟨l1, n1, c1, d1⟩ := open_floats (u := 22) (n := 4) (by kernel_rfl) (by kernel_rfl) (hval 1 38 v1 rfl rfl)
  obtain ⟨u5, t1_1, rfl, n1_1⟩ := len_more n1
  obtain ⟨u6, t1_2, rfl, n1_2⟩ := len_more n1_1
  obtain ⟨u7, t1_3, rfl, n1_3⟩ := len_more n1_2
  obtain ⟨u8, t1_4, rfl, n1_4⟩ := len_more n1_3
  obtain rfl := len_none n1_4
  obtain ⟨l2, n2, c2, d2⟩ := open_floats (u := 22) (n := 3) (by kernel_rfl) (by kernel_rfl) (hval 2 36 v2 rfl rfl)
  obtain ⟨u9, t2_1, rfl, n2_1⟩ := len_more n2
  obtain ⟨u10, t2_2, rfl, n2_2⟩ := len_more n2_1
  obtain ⟨u11, t2_3, rfl, n2_3⟩ := len_more n2_2
  obtain rfl := len_none n2_3
  refine law_calls (fn := Try.f6) ok_laws_FnExactShadowOfPoint ⟨Try.func6, by kernel_rfl, by kernel_rfl⟩ ?_ (.cons d0 (.cons d1 (.cons d2 (.nil))))
  exact congrArg (fun b => some [rB b]) (true_fnExactShadowOfPoint u0 u1 u2 u3 u4 u5 u6 u7 u8 u9 u10 u11)

end Go.Proofs.Ytkmijohkblmajaa
