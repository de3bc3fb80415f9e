/- Contracts of the functions that the laws of this seat reach. -/
import Derived.Test.YtlklakllkicblaaMod
import Derived.Test.YtlklakllkicblaaChecked
namespace Go.Proofs.Ytlklakllkicblaa
open Go Go.RowKit
set_option maxRecDepth 20000
set_option linter.all false
theorem mixed : Try.prog.follows .mixedOrders = true := by kernel_rfl
noncomputable def S_spec_l01Plain : Spec := fun args => match args with
  | [.v (.s (.c (.f .f32 a)))] => some [rB (isPlain a)]
  | _ => none
theorem ok_spec_l01Plain : SpecOK Try.prog 65 S_spec_l01Plain :=
  auto_ok (Γ := []) mixed 12 ctx_nil ⟨Try.func65, by kernel_rfl, by kernel_rfl⟩ (by
    intro args r h
    unfold S_spec_l01Plain at h
    split at h
    · cases h; kernel_rfl
    · cases h)

noncomputable def S_spec_l01Point : Spec := fun args => match args with
  | [.v (.agg xs0)] => withFs xs0 fun l0 => match l0 with
    | [a, b, c] => some [rB (ptOK a b c)]
    | _ => none
  | _ => none
theorem ok_spec_l01Point : SpecOK Try.prog 50 S_spec_l01Point :=
  auto_ok (Γ := [(65, S_spec_l01Plain)]) mixed 12 (ctx_cons ok_spec_l01Plain ctx_nil) ⟨Try.func50, by kernel_rfl, by kernel_rfl⟩ (by
    intro args r h
    unfold S_spec_l01Point at h
    split at h
    · obtain ⟨l0, e0, g0⟩ := withFs_spec h; clear h; subst e0
      split at g0
      · cases g0; kernel_rfl
      · cases g0
    · cases h)

noncomputable def S_spec_l05Two : Spec := fun args => match args with
  | [.v (.s (.c (.f .f32 a))), .v (.s (.c (.f .f32 d))), .v (.s (.c (.f .f32 b))), .v (.s (.c (.f .f32 c)))] => some [rF (minor a b c d)]
  | _ => none
theorem ok_spec_l05Two : SpecOK Try.prog 51 S_spec_l05Two :=
  auto_ok (Γ := []) mixed 12 ctx_nil ⟨Try.func51, by kernel_rfl, by kernel_rfl⟩ (by
    intro args r h
    unfold S_spec_l05Two at h
    split at h
    · cases h; kernel_rfl
    · cases h)

noncomputable def S_spec_l01Small : Spec := fun args => match args with
  | [.v (.s (.c (.f .f32 a)))] => some [rB (small a)]
  | _ => none
theorem ok_spec_l01Small : SpecOK Try.prog 52 S_spec_l01Small :=
  auto_ok (Γ := []) mixed 12 ctx_nil ⟨Try.func52, by kernel_rfl, by kernel_rfl⟩ (by
    intro args r h
    unfold S_spec_l01Small at h
    split at h
    · cases h; kernel_rfl
    · cases h)

noncomputable def S_spec_l01Finite : Spec := fun args => match args with
  | [.v (.s (.c (.f .f32 a)))] => some [rB (isFin a)]
  | _ => none
theorem ok_spec_l01Finite : SpecOK Try.prog 53 S_spec_l01Finite :=
  auto_ok (Γ := []) mixed 12 ctx_nil ⟨Try.func53, by kernel_rfl, by kernel_rfl⟩ (by
    intro args r h
    unfold S_spec_l01Finite at h
    split at h
    · cases h; kernel_rfl
    · cases h)

noncomputable def S_spec_MeetSpots : Spec := fun args => match args with
  | [.v (.agg xs0), .v (.agg xs1)] => withFs xs0 fun l0 => withFs xs1 fun l1 => match l0, l1 with
    | [a, b, c], [x, y, z] => some [rA [two (bad2 a b c x y z) (small (minor a b x y)) fin2 (meetX a b c x y z) (meetY a b c x y z) (meetX a b c x y z), two (bad2 a b c x y z) (small (minor a b x y)) fin2 (meetX a b c x y z) (meetY a b c x y z) (meetY a b c x y z)], rI (twoC (bad2 a b c x y z) (small (minor a b x y)) fin2 (meetX a b c x y z) (meetY a b c x y z))]
    | _, _ => none
  | _ => none
theorem ok_spec_MeetSpots : SpecOK Try.prog 15 S_spec_MeetSpots :=
  auto_ok (Γ := [(50, S_spec_l01Point), (51, S_spec_l05Two), (52, S_spec_l01Small), (53, S_spec_l01Finite)]) mixed 12 (ctx_cons ok_spec_l01Point (ctx_cons ok_spec_l05Two (ctx_cons ok_spec_l01Small (ctx_cons ok_spec_l01Finite ctx_nil)))) ⟨Try.func15, by kernel_rfl, by kernel_rfl⟩ (by
    intro args r h
    unfold S_spec_MeetSpots at h
    split at h
    · obtain ⟨l0, e0, g0⟩ := withFs_spec h; clear h; subst e0
      obtain ⟨l1, e1, g1⟩ := withFs_spec g0; clear g0; subst e1
      split at g1
      · rename_i a b c x y z; cases g1; exact (show _ = some [rA [sel (bad2 a b c x y z) (sel (small (minor a b x y)) (sel (bif !isFin (meetX a b c x y z) then true else !isFin (meetY a b c x y z)) (meetX a b c x y z))), sel (bad2 a b c x y z) (sel (small (minor a b x y)) (sel (bif !isFin (meetX a b c x y z) then true else !isFin (meetY a b c x y z)) (meetY a b c x y z)))], rI (cod (bad2 a b c x y z) 1 (cod (small (minor a b x y)) 4 (cod (bif !isFin (meetX a b c x y z) then true else !isFin (meetY a b c x y z)) 4 0)))] by kernel_rfl).trans (by unfold two twoC fin2; simp only [ptOK, spotOK, allPts, allSps, all2, all3, ptF, spotF, allF, allL, sel, cod, List.map, allC_cons, allC_nil, bif_f, bif_t, Bool.not_not, Bool.not_and, Bool.not_or, Bool.and_true, Bool.or_false, Bool.and_assoc, Bool.or_assoc, code_ne, bif_bif, cond_true, cond_false])
      · cases g1
    · cases h)

noncomputable def S_laws_toPoint : Spec := fun args => match args with
  | [.v (.agg xs0)] => withFs xs0 fun l0 => match l0 with
    | [x, y, z] => some [rA [x, y, z]]
    | _ => none
  | _ => none
theorem ok_laws_toPoint : SpecOK Try.prog 16 S_laws_toPoint :=
  auto_ok (Γ := []) mixed 12 ctx_nil ⟨Try.func16, by kernel_rfl, by kernel_rfl⟩ (by
    intro args r h
    unfold S_laws_toPoint at h
    split at h
    · obtain ⟨l0, e0, g0⟩ := withFs_spec h; clear h; subst e0
      split at g0
      · cases g0; kernel_rfl
      · cases g0
    · cases h)

noncomputable def S_impl_IsPlain : Spec := fun args => match args with
  | [.v (.s (.c (.f .f32 a)))] => some [rB (isPlain a)]
  | _ => none
theorem ok_impl_IsPlain : SpecOK Try.prog 66 S_impl_IsPlain :=
  auto_ok (Γ := []) mixed 12 ctx_nil ⟨Try.func66, by kernel_rfl, by kernel_rfl⟩ (by
    intro args r h
    unfold S_impl_IsPlain at h
    split at h
    · cases h; kernel_rfl
    · cases h)

noncomputable def S_impl_arePlain_1 : Spec := fun args => match args with
  | [.v (.s (.c (.f .f32 a)))] => some [rB (!isPlain a)]
  | _ => none
theorem ok_impl_arePlain_1 : SpecOK Try.prog 111 S_impl_arePlain_1 :=
  auto_ok (Γ := [(66, S_impl_IsPlain)]) mixed 12 (ctx_cons ok_impl_IsPlain ctx_nil) ⟨Try.func111, by kernel_rfl, by kernel_rfl⟩ (by
    intro args r h
    unfold S_impl_arePlain_1 at h
    split at h
    · cases h; kernel_rfl
    · cases h)

noncomputable def S_impl_isFinite : Spec := fun args => match args with
  | [.v (.s (.c (.f .f32 a)))] => some [rB (isFin a)]
  | _ => none
theorem ok_impl_isFinite : SpecOK Try.prog 105 S_impl_isFinite :=
  auto_ok (Γ := []) mixed 12 ctx_nil ⟨Try.func105, by kernel_rfl, by kernel_rfl⟩ (by
    intro args r h
    unfold S_impl_isFinite at h
    split at h
    · cases h; kernel_rfl
    · cases h)

noncomputable def S_impl_areFinite_1 : Spec := fun args => match args with
  | [.v (.s (.c (.f .f32 a)))] => some [rB (!isFin a)]
  | _ => none
theorem ok_impl_areFinite_1 : SpecOK Try.prog 117 S_impl_areFinite_1 :=
  auto_ok (Γ := [(105, S_impl_isFinite)]) mixed 12 (ctx_cons ok_impl_isFinite ctx_nil) ⟨Try.func117, by kernel_rfl, by kernel_rfl⟩ (by
    intro args r h
    unfold S_impl_areFinite_1 at h
    split at h
    · cases h; kernel_rfl
    · cases h)

noncomputable def S_slices_IndexFunc_float32_float32 : Spec := funcSpec Try.prog [(111, S_impl_arePlain_1), (117, S_impl_areFinite_1)] 14 Try.f123
theorem ok_slices_IndexFunc_float32_float32 : SpecOK Try.prog 123 S_slices_IndexFunc_float32_float32 := func_sound (ctx_cons ok_impl_arePlain_1 (ctx_cons ok_impl_areFinite_1 ctx_nil)) mixed 14 ⟨Try.func123, by kernel_rfl, by kernel_rfl⟩

noncomputable def S_slices_ContainsFunc_float32_float32 : Spec := funcSpec Try.prog [(123, S_slices_IndexFunc_float32_float32), (111, S_impl_arePlain_1), (117, S_impl_areFinite_1)] 14 Try.f110
theorem ok_slices_ContainsFunc_float32_float32 : SpecOK Try.prog 110 S_slices_ContainsFunc_float32_float32 := func_sound (ctx_cons ok_slices_IndexFunc_float32_float32 (ctx_cons ok_impl_arePlain_1 (ctx_cons ok_impl_areFinite_1 ctx_nil))) mixed 14 ⟨Try.func110, by kernel_rfl, by kernel_rfl⟩

noncomputable def S_impl_arePlain : Spec := fun args => match args with
  | [.sl xs n] => withFs xs fun l => match n, l with
    | 1, [x0] => some [rB (allF isPlain [x0])]
    | 2, [x0, x1] => some [rB (allF isPlain [x0, x1])]
    | 3, [x0, x1, x2] => some [rB (allF isPlain [x0, x1, x2])]
    | 4, [x0, x1, x2, x3] => some [rB (allF isPlain [x0, x1, x2, x3])]
    | 5, [x0, x1, x2, x3, x4] => some [rB (allF isPlain [x0, x1, x2, x3, x4])]
    | 9, [x0, x1, x2, x3, x4, x5, x6, x7, x8] => some [rB (allF isPlain [x0, x1, x2, x3, x4, x5, x6, x7, x8])]
    | _, _ => none
  | _ => none
theorem ok_impl_arePlain : SpecOK Try.prog 85 S_impl_arePlain :=
  auto_ok (Γ := [(110, S_slices_ContainsFunc_float32_float32), (111, S_impl_arePlain_1)]) mixed 14 (ctx_cons ok_slices_ContainsFunc_float32_float32 (ctx_cons ok_impl_arePlain_1 ctx_nil)) ⟨Try.func85, by kernel_rfl, by kernel_rfl⟩ (by
    intro args r h
    unfold S_impl_arePlain at h
    split at h
    · obtain ⟨l0, e0, g0⟩ := withFs_spec h; clear h; subst e0
      split at g0
      · rename_i x0; cases g0
        have e : funcSpec Try.prog [(110, S_slices_ContainsFunc_float32_float32), (111, S_impl_arePlain_1)] 14 Try.f85 [.sl (fsL [x0]) 1] = some [rB (!decide (idxB 0 [!isPlain x0] ≥ 0))] := by kernel_rfl
        rw [e, not_idxB]; rfl
      · rename_i x0 x1; cases g0
        have e : funcSpec Try.prog [(110, S_slices_ContainsFunc_float32_float32), (111, S_impl_arePlain_1)] 14 Try.f85 [.sl (fsL [x0, x1]) 2] = some [rB (!decide (idxB 0 [!isPlain x0, !isPlain x1] ≥ 0))] := by kernel_rfl
        rw [e, not_idxB]; rfl
      · rename_i x0 x1 x2; cases g0
        have e : funcSpec Try.prog [(110, S_slices_ContainsFunc_float32_float32), (111, S_impl_arePlain_1)] 14 Try.f85 [.sl (fsL [x0, x1, x2]) 3] = some [rB (!decide (idxB 0 [!isPlain x0, !isPlain x1, !isPlain x2] ≥ 0))] := by kernel_rfl
        rw [e, not_idxB]; rfl
      · rename_i x0 x1 x2 x3; cases g0
        have e : funcSpec Try.prog [(110, S_slices_ContainsFunc_float32_float32), (111, S_impl_arePlain_1)] 14 Try.f85 [.sl (fsL [x0, x1, x2, x3]) 4] = some [rB (!decide (idxB 0 [!isPlain x0, !isPlain x1, !isPlain x2, !isPlain x3] ≥ 0))] := by kernel_rfl
        rw [e, not_idxB]; rfl
      · rename_i x0 x1 x2 x3 x4; cases g0
        have e : funcSpec Try.prog [(110, S_slices_ContainsFunc_float32_float32), (111, S_impl_arePlain_1)] 14 Try.f85 [.sl (fsL [x0, x1, x2, x3, x4]) 5] = some [rB (!decide (idxB 0 [!isPlain x0, !isPlain x1, !isPlain x2, !isPlain x3, !isPlain x4] ≥ 0))] := by kernel_rfl
        rw [e, not_idxB]; rfl
      · rename_i x0 x1 x2 x3 x4 x5 x6 x7 x8; cases g0
        have e : funcSpec Try.prog [(110, S_slices_ContainsFunc_float32_float32), (111, S_impl_arePlain_1)] 14 Try.f85 [.sl (fsL [x0, x1, x2, x3, x4, x5, x6, x7, x8]) 9] = some [rB (!decide (idxB 0 [!isPlain x0, !isPlain x1, !isPlain x2, !isPlain x3, !isPlain x4, !isPlain x5, !isPlain x6, !isPlain x7, !isPlain x8] ≥ 0))] := by kernel_rfl
        rw [e, not_idxB]; rfl
      · cases g0
    · cases h)

noncomputable def S_impl_ValidPoint : Spec := fun args => match args with
  | [.v (.agg xs0)] => withFs xs0 fun l0 => match l0 with
    | [a, b, c] => some [rB (ptOK a b c)]
    | _ => none
  | _ => none
theorem ok_impl_ValidPoint : SpecOK Try.prog 81 S_impl_ValidPoint :=
  auto_ok (Γ := [(85, S_impl_arePlain)]) mixed 12 (ctx_cons ok_impl_arePlain ctx_nil) ⟨Try.func81, by kernel_rfl, by kernel_rfl⟩ (by
    intro args r h
    unfold S_impl_ValidPoint at h
    split at h
    · obtain ⟨l0, e0, g0⟩ := withFs_spec h; clear h; subst e0
      split at g0
      · rename_i a b c; cases g0; exact (show _ = some [rB (allF isPlain [a, b, c])] by kernel_rfl).trans (by simp only [ptOK, spotOK, allPts, allSps, all2, all3, ptF, spotF, allF, allL, sel, cod, List.map, allC_cons, allC_nil, bif_f, bif_t, Bool.not_not, Bool.not_and, Bool.not_or, Bool.and_true, Bool.or_false, Bool.and_assoc, Bool.or_assoc, code_ne, bif_bif, cond_true, cond_false])
      · cases g0
    · cases h)

noncomputable def S_impl_arePoints_1 : Spec := fun args => match args with
  | [.v (.agg xs0)] => withFs xs0 fun l0 => match l0 with
    | [a, b, c] => some [rB (!ptF a b c)]
    | _ => none
  | _ => none
theorem ok_impl_arePoints_1 : SpecOK Try.prog 95 S_impl_arePoints_1 :=
  auto_ok (Γ := [(81, S_impl_ValidPoint)]) mixed 12 (ctx_cons ok_impl_ValidPoint ctx_nil) ⟨Try.func95, by kernel_rfl, by kernel_rfl⟩ (by
    intro args r h
    unfold S_impl_arePoints_1 at h
    split at h
    · obtain ⟨l0, e0, g0⟩ := withFs_spec h; clear h; subst e0
      split at g0
      · rename_i a b c; cases g0; exact (show _ = some [rB (!ptOK a b c)] by kernel_rfl).trans (by simp only [ptOK, spotOK, allPts, allSps, all2, all3, ptF, spotF, allF, allL, sel, cod, List.map, allC_cons, allC_nil, bif_f, bif_t, Bool.not_not, Bool.not_and, Bool.not_or, Bool.and_true, Bool.or_false, Bool.and_assoc, Bool.or_assoc, code_ne, bif_bif, cond_true, cond_false])
      · cases g0
    · cases h)

noncomputable def S_slices_IndexFunc_impl_Point_impl_Point : Spec := funcSpec Try.prog [(95, S_impl_arePoints_1)] 14 Try.f115
theorem ok_slices_IndexFunc_impl_Point_impl_Point : SpecOK Try.prog 115 S_slices_IndexFunc_impl_Point_impl_Point := func_sound (ctx_cons ok_impl_arePoints_1 ctx_nil) mixed 14 ⟨Try.func115, by kernel_rfl, by kernel_rfl⟩

noncomputable def S_slices_ContainsFunc_impl_Point_impl_Point : Spec := funcSpec Try.prog [(115, S_slices_IndexFunc_impl_Point_impl_Point), (95, S_impl_arePoints_1)] 14 Try.f94
theorem ok_slices_ContainsFunc_impl_Point_impl_Point : SpecOK Try.prog 94 S_slices_ContainsFunc_impl_Point_impl_Point := func_sound (ctx_cons ok_slices_IndexFunc_impl_Point_impl_Point (ctx_cons ok_impl_arePoints_1 ctx_nil)) mixed 14 ⟨Try.func94, by kernel_rfl, by kernel_rfl⟩

noncomputable def S_impl_arePoints : Spec := fun args => match args with
  | [.sl xs n] => withFs xs fun l => match n, l with
    | 1, [x0, x1, x2] => some [rB (allPts [x0, x1, x2])]
    | 2, [x0, x1, x2, x3, x4, x5] => some [rB (allPts [x0, x1, x2, x3, x4, x5])]
    | 3, [x0, x1, x2, x3, x4, x5, x6, x7, x8] => some [rB (allPts [x0, x1, x2, x3, x4, x5, x6, x7, x8])]
    | 4, [x0, x1, x2, x3, x4, x5, x6, x7, x8, x9, x10, x11] => some [rB (allPts [x0, x1, x2, x3, x4, x5, x6, x7, x8, x9, x10, x11])]
    | _, _ => none
  | _ => none
theorem ok_impl_arePoints : SpecOK Try.prog 54 S_impl_arePoints :=
  auto_ok (Γ := [(94, S_slices_ContainsFunc_impl_Point_impl_Point), (95, S_impl_arePoints_1)]) mixed 14 (ctx_cons ok_slices_ContainsFunc_impl_Point_impl_Point (ctx_cons ok_impl_arePoints_1 ctx_nil)) ⟨Try.func54, by kernel_rfl, by kernel_rfl⟩ (by
    intro args r h
    unfold S_impl_arePoints at h
    split at h
    · obtain ⟨l0, e0, g0⟩ := withFs_spec h; clear h; subst e0
      split at g0
      · rename_i x0 x1 x2; cases g0
        have e : funcSpec Try.prog [(94, S_slices_ContainsFunc_impl_Point_impl_Point), (95, S_impl_arePoints_1)] 14 Try.f54 [.sl (fsL [x0, x1, x2]) 1] = some [rB (!decide (idxB 0 [!ptF x0 x1 x2] ≥ 0))] := by kernel_rfl
        rw [e, not_idxB]; rfl
      · rename_i x0 x1 x2 x3 x4 x5; cases g0
        have e : funcSpec Try.prog [(94, S_slices_ContainsFunc_impl_Point_impl_Point), (95, S_impl_arePoints_1)] 14 Try.f54 [.sl (fsL [x0, x1, x2, x3, x4, x5]) 2] = some [rB (!decide (idxB 0 [!ptF x0 x1 x2, !ptF x3 x4 x5] ≥ 0))] := by kernel_rfl
        rw [e, not_idxB]; rfl
      · rename_i x0 x1 x2 x3 x4 x5 x6 x7 x8; cases g0
        have e : funcSpec Try.prog [(94, S_slices_ContainsFunc_impl_Point_impl_Point), (95, S_impl_arePoints_1)] 14 Try.f54 [.sl (fsL [x0, x1, x2, x3, x4, x5, x6, x7, x8]) 3] = some [rB (!decide (idxB 0 [!ptF x0 x1 x2, !ptF x3 x4 x5, !ptF x6 x7 x8] ≥ 0))] := by kernel_rfl
        rw [e, not_idxB]; rfl
      · rename_i x0 x1 x2 x3 x4 x5 x6 x7 x8 x9 x10 x11; cases g0
        have e : funcSpec Try.prog [(94, S_slices_ContainsFunc_impl_Point_impl_Point), (95, S_impl_arePoints_1)] 14 Try.f54 [.sl (fsL [x0, x1, x2, x3, x4, x5, x6, x7, x8, x9, x10, x11]) 4] = some [rB (!decide (idxB 0 [!ptF x0 x1 x2, !ptF x3 x4 x5, !ptF x6 x7 x8, !ptF x9 x10 x11] ≥ 0))] := by kernel_rfl
        rw [e, not_idxB]; rfl
      · cases g0
    · cases h)

noncomputable def S_impl_minor : Spec := fun args => match args with
  | [.v (.s (.c (.f .f32 a))), .v (.s (.c (.f .f32 b))), .v (.s (.c (.f .f32 c))), .v (.s (.c (.f .f32 d)))] => some [rF (minor a b c d)]
  | _ => none
theorem ok_impl_minor : SpecOK Try.prog 55 S_impl_minor :=
  auto_ok (Γ := []) mixed 12 ctx_nil ⟨Try.func55, by kernel_rfl, by kernel_rfl⟩ (by
    intro args r h
    unfold S_impl_minor at h
    split at h
    · cases h; kernel_rfl
    · cases h)

abbrev S_math_Float64frombits : Spec := S_from64
theorem ok_math_Float64frombits : SpecOK Try.prog 124 S_math_Float64frombits := ok_from64 (fn := Try.f124) ⟨Try.func124, by kernel_rfl, by kernel_rfl, by kernel_rfl, by kernel_rfl⟩

abbrev S_math_Float64bits : Spec := S_bits64
theorem ok_math_Float64bits : SpecOK Try.prog 125 S_math_Float64bits := ok_bits64 (fn := Try.f125) ⟨Try.func125, by kernel_rfl, by kernel_rfl, by kernel_rfl, by kernel_rfl⟩

abbrev S_math_Abs : Spec := S_abs
theorem ok_math_Abs : SpecOK Try.prog 116 S_math_Abs := ok_abs_of (func_sound (Γ := [(125, S_math_Float64bits), (124, S_math_Float64frombits)]) (ctx_cons ok_math_Float64bits (ctx_cons ok_math_Float64frombits ctx_nil)) mixed 12 ⟨Try.func116, by kernel_rfl, by kernel_rfl⟩) (fun b => by kernel_rfl)
noncomputable def S_impl_size : Spec := fun args => match args with
  | [.v (.s (.c (.f .f32 a)))] => some [rF (nabs a)]
  | _ => none
theorem ok_impl_size : SpecOK Try.prog 96 S_impl_size :=
  auto_ok (Γ := [(116, S_math_Abs)]) mixed 12 (ctx_cons ok_math_Abs ctx_nil) ⟨Try.func96, by kernel_rfl, by kernel_rfl⟩ (by
    intro args r h
    unfold S_impl_size at h
    split at h
    · cases h; kernel_rfl
    · cases h)

noncomputable def S_impl_isSmall : Spec := fun args => match args with
  | [.v (.s (.c (.f .f32 a)))] => some [rB (small a)]
  | _ => none
theorem ok_impl_isSmall : SpecOK Try.prog 56 S_impl_isSmall :=
  auto_ok (Γ := [(96, S_impl_size)]) mixed 12 (ctx_cons ok_impl_size ctx_nil) ⟨Try.func56, by kernel_rfl, by kernel_rfl⟩ (by
    intro args r h
    unfold S_impl_isSmall at h
    split at h
    · rename_i a; cases h; exact (show _ = some [rB (!fge .f32 (nabs a) 897581056)] by kernel_rfl).trans (congrArg (fun b => some [rB b]) (small_eq a))
    · cases h)

noncomputable def S_impl_areFinite : Spec := fun args => match args with
  | [.sl xs n] => withFs xs fun l => match n, l with
    | 1, [x0] => some [rB (allF isFin [x0])]
    | 2, [x0, x1] => some [rB (allF isFin [x0, x1])]
    | 3, [x0, x1, x2] => some [rB (allF isFin [x0, x1, x2])]
    | _, _ => none
  | _ => none
theorem ok_impl_areFinite : SpecOK Try.prog 97 S_impl_areFinite :=
  auto_ok (Γ := [(110, S_slices_ContainsFunc_float32_float32), (117, S_impl_areFinite_1)]) mixed 14 (ctx_cons ok_slices_ContainsFunc_float32_float32 (ctx_cons ok_impl_areFinite_1 ctx_nil)) ⟨Try.func97, by kernel_rfl, by kernel_rfl⟩ (by
    intro args r h
    unfold S_impl_areFinite at h
    split at h
    · obtain ⟨l0, e0, g0⟩ := withFs_spec h; clear h; subst e0
      split at g0
      · rename_i x0; cases g0
        have e : funcSpec Try.prog [(110, S_slices_ContainsFunc_float32_float32), (117, S_impl_areFinite_1)] 14 Try.f97 [.sl (fsL [x0]) 1] = some [rB (!decide (idxB 0 [!isFin x0] ≥ 0))] := by kernel_rfl
        rw [e, not_idxB]; rfl
      · rename_i x0 x1; cases g0
        have e : funcSpec Try.prog [(110, S_slices_ContainsFunc_float32_float32), (117, S_impl_areFinite_1)] 14 Try.f97 [.sl (fsL [x0, x1]) 2] = some [rB (!decide (idxB 0 [!isFin x0, !isFin x1] ≥ 0))] := by kernel_rfl
        rw [e, not_idxB]; rfl
      · rename_i x0 x1 x2; cases g0
        have e : funcSpec Try.prog [(110, S_slices_ContainsFunc_float32_float32), (117, S_impl_areFinite_1)] 14 Try.f97 [.sl (fsL [x0, x1, x2]) 3] = some [rB (!decide (idxB 0 [!isFin x0, !isFin x1, !isFin x2] ≥ 0))] := by kernel_rfl
        rw [e, not_idxB]; rfl
      · cases g0
    · cases h)

noncomputable def S_impl_finiteSpot : Spec := fun args => match args with
  | [.v (.agg xs0)] => withFs xs0 fun l0 => match l0 with
    | [a, b] => some [rA [sel (!fin2 a b) a, sel (!fin2 a b) b], rI (cod (!fin2 a b) 4 0)]
    | _ => none
  | _ => none
theorem ok_impl_finiteSpot : SpecOK Try.prog 57 S_impl_finiteSpot :=
  auto_ok (Γ := [(97, S_impl_areFinite)]) mixed 12 (ctx_cons ok_impl_areFinite ctx_nil) ⟨Try.func57, by kernel_rfl, by kernel_rfl⟩ (by
    intro args r h
    unfold S_impl_finiteSpot at h
    split at h
    · obtain ⟨l0, e0, g0⟩ := withFs_spec h; clear h; subst e0
      split at g0
      · rename_i a b; cases g0; exact (show _ = some [rA [sel (!allF isFin [a, b]) a, sel (!allF isFin [a, b]) b], rI (cod (!allF isFin [a, b]) 4 0)] by kernel_rfl).trans (by unfold fin2; simp only [ptOK, spotOK, allPts, allSps, all2, all3, ptF, spotF, allF, allL, sel, cod, List.map, allC_cons, allC_nil, bif_f, bif_t, Bool.not_not, Bool.not_and, Bool.not_or, Bool.and_true, Bool.or_false, Bool.and_assoc, Bool.or_assoc, code_ne, bif_bif, cond_true, cond_false])
      · cases g0
    · cases h)

noncomputable def S_impl_MeetSpots : Spec := fun args => match args with
  | [.v (.agg xs0), .v (.agg xs1)] => withFs xs0 fun l0 => withFs xs1 fun l1 => match l0, l1 with
    | [a, b, c], [x, y, z] => some [rA [two (bad2 a b c x y z) (small (minor a b x y)) fin2 (meetX a b c x y z) (meetY a b c x y z) (meetX a b c x y z), two (bad2 a b c x y z) (small (minor a b x y)) fin2 (meetX a b c x y z) (meetY a b c x y z) (meetY a b c x y z)], rI (twoC (bad2 a b c x y z) (small (minor a b x y)) fin2 (meetX a b c x y z) (meetY a b c x y z))]
    | _, _ => none
  | _ => none
theorem ok_impl_MeetSpots : SpecOK Try.prog 17 S_impl_MeetSpots :=
  auto_ok (Γ := [(54, S_impl_arePoints), (55, S_impl_minor), (56, S_impl_isSmall), (57, S_impl_finiteSpot)]) mixed 12 (ctx_cons ok_impl_arePoints (ctx_cons ok_impl_minor (ctx_cons ok_impl_isSmall (ctx_cons ok_impl_finiteSpot ctx_nil)))) ⟨Try.func17, by kernel_rfl, by kernel_rfl⟩ (by
    intro args r h
    unfold S_impl_MeetSpots at h
    split at h
    · obtain ⟨l0, e0, g0⟩ := withFs_spec h; clear h; subst e0
      obtain ⟨l1, e1, g1⟩ := withFs_spec g0; clear g0; subst e1
      split at g1
      · rename_i a b c x y z; cases g1; exact (show _ = some [rA [two (!allPts [a, b, c, x, y, z]) (small (minor a b x y)) fin2 (meetX a b c x y z) (meetY a b c x y z) (meetX a b c x y z), two (!allPts [a, b, c, x, y, z]) (small (minor a b x y)) fin2 (meetX a b c x y z) (meetY a b c x y z) (meetY a b c x y z)], rI (twoC (!allPts [a, b, c, x, y, z]) (small (minor a b x y)) fin2 (meetX a b c x y z) (meetY a b c x y z))] by kernel_rfl).trans (by unfold bad2; simp only [ptOK, spotOK, allPts, allSps, all2, all3, ptF, spotF, allF, allL, sel, cod, List.map, allC_cons, allC_nil, bif_f, bif_t, Bool.not_not, Bool.not_and, Bool.not_or, Bool.and_true, Bool.or_false, Bool.and_assoc, Bool.or_assoc, code_ne, bif_bif, cond_true, cond_false])
      · cases g1
    · cases h)

noncomputable def S_laws_sameFloat : Spec := fun args => match args with
  | [.v (.s (.c (.g a))), .v (.s (.c (.g b)))] => some [rB (sameD a b)]
  | _ => none
theorem ok_laws_sameFloat : SpecOK Try.prog 25 S_laws_sameFloat :=
  auto_ok (Γ := []) mixed 12 ctx_nil ⟨Try.func25, by kernel_rfl, by kernel_rfl⟩ (by
    intro args r h
    unfold S_laws_sameFloat at h
    split at h
    · cases h; kernel_rfl
    · cases h)

noncomputable def S_laws_eqSpot : Spec := fun args => match args with
  | [.v (.agg xs0), .v (.agg xs1)] => withFs xs0 fun l0 => withFs xs1 fun l1 => match l0, l1 with
    | [a, b], [x, y] => some [rB (allC [sameD (fwide a) (fwide x), sameD (fwide b) (fwide y)])]
    | _, _ => none
  | _ => none
theorem ok_laws_eqSpot : SpecOK Try.prog 18 S_laws_eqSpot :=
  auto_ok (Γ := [(25, S_laws_sameFloat)]) mixed 12 (ctx_cons ok_laws_sameFloat ctx_nil) ⟨Try.func18, by kernel_rfl, by kernel_rfl⟩ (by
    intro args r h
    unfold S_laws_eqSpot at h
    split at h
    · obtain ⟨l0, e0, g0⟩ := withFs_spec h; clear h; subst e0
      obtain ⟨l1, e1, g1⟩ := withFs_spec g0; clear g0; subst e1
      split at g1
      · cases g1; kernel_rfl
      · cases g1
    · cases h)

noncomputable def S_laws_FnExactMeetSpots : Spec := fun args => match args with
  | [.v (.agg xs0), .v (.agg xs1)] => withFs xs0 fun l0 => withFs xs1 fun l1 => match l0, l1 with
    | [a, b, c], [x, y, z] => some [rB (bif (bif (!allC [sameD (fwide (two (bad2 a b c x y z) (small (minor a b x y)) fin2 (meetX a b c x y z) (meetY a b c x y z) (meetX a b c x y z))) (fwide (two (bad2 a b c x y z) (small (minor a b x y)) fin2 (meetX a b c x y z) (meetY a b c x y z) (meetX a b c x y z))), sameD (fwide (two (bad2 a b c x y z) (small (minor a b x y)) fin2 (meetX a b c x y z) (meetY a b c x y z) (meetY a b c x y z))) (fwide (two (bad2 a b c x y z) (small (minor a b x y)) fin2 (meetX a b c x y z) (meetY a b c x y z) (meetY a b c x y z)))]) then true else ((((twoC (bad2 a b c x y z) (small (minor a b x y)) fin2 (meetX a b c x y z) (meetY a b c x y z))) : Int) != ((twoC (bad2 a b c x y z) (small (minor a b x y)) fin2 (meetX a b c x y z) (meetY a b c x y z))))) then false else true)]
    | _, _ => none
  | _ => none
theorem ok_laws_FnExactMeetSpots : SpecOK Try.prog 3 S_laws_FnExactMeetSpots :=
  auto_ok (Γ := [(15, S_spec_MeetSpots), (16, S_laws_toPoint), (17, S_impl_MeetSpots), (18, S_laws_eqSpot)]) mixed 12 (ctx_cons ok_spec_MeetSpots (ctx_cons ok_laws_toPoint (ctx_cons ok_impl_MeetSpots (ctx_cons ok_laws_eqSpot ctx_nil)))) ⟨Try.func3, by kernel_rfl, by kernel_rfl⟩ (by
    intro args r h
    unfold S_laws_FnExactMeetSpots at h
    split at h
    · obtain ⟨l0, e0, g0⟩ := withFs_spec h; clear h; subst e0
      obtain ⟨l1, e1, g1⟩ := withFs_spec g0; clear g0; subst e1
      split at g1
      · cases g1; kernel_rfl
      · cases g1
    · cases h)

noncomputable def S_spec_l02Spot : Spec := fun args => match args with
  | [.v (.agg xs0)] => withFs xs0 fun l0 => match l0 with
    | [a, b] => some [rB (spotOK a b)]
    | _ => none
  | _ => none
theorem ok_spec_l02Spot : SpecOK Try.prog 58 S_spec_l02Spot :=
  auto_ok (Γ := [(65, S_spec_l01Plain)]) mixed 12 (ctx_cons ok_spec_l01Plain ctx_nil) ⟨Try.func58, by kernel_rfl, by kernel_rfl⟩ (by
    intro args r h
    unfold S_spec_l02Spot at h
    split at h
    · obtain ⟨l0, e0, g0⟩ := withFs_spec h; clear h; subst e0
      split at g0
      · cases g0; kernel_rfl
      · cases g0
    · cases h)

noncomputable def S_spec_l01Finites : Spec := fun args => match args with
  | [.v (.agg xs0)] => withFs xs0 fun l0 => match l0 with
    | [a, b, c] => some [rB (bif (bif isFin a then isFin b else false) then isFin c else false)]
    | _ => none
  | _ => none
theorem ok_spec_l01Finites : SpecOK Try.prog 98 S_spec_l01Finites :=
  auto_ok (Γ := [(53, S_spec_l01Finite)]) mixed 12 (ctx_cons ok_spec_l01Finite ctx_nil) ⟨Try.func98, by kernel_rfl, by kernel_rfl⟩ (by
    intro args r h
    unfold S_spec_l01Finites at h
    split at h
    · obtain ⟨l0, e0, g0⟩ := withFs_spec h; clear h; subst e0
      split at g0
      · cases g0; kernel_rfl
      · cases g0
    · cases h)

noncomputable def S_spec_l01Done : Spec := fun args => match args with
  | [.v (.agg xs0)] => withFs xs0 fun l0 => match l0 with
    | [a, b, c] => some [rA [sel (!fin3 a b c) a, sel (!fin3 a b c) b, sel (!fin3 a b c) c], rI (cod (!fin3 a b c) 4 0)]
    | _ => none
  | _ => none
theorem ok_spec_l01Done : SpecOK Try.prog 59 S_spec_l01Done :=
  auto_ok (Γ := [(98, S_spec_l01Finites)]) mixed 12 (ctx_cons ok_spec_l01Finites ctx_nil) ⟨Try.func59, by kernel_rfl, by kernel_rfl⟩ (by
    intro args r h
    unfold S_spec_l01Done at h
    split at h
    · obtain ⟨l0, e0, g0⟩ := withFs_spec h; clear h; subst e0
      split at g0
      · cases g0; kernel_rfl
      · cases g0
    · cases h)

noncomputable def S_spec_LineThrough : Spec := fun args => match args with
  | [.v (.agg xs0), .v (.agg xs1)] => withFs xs0 fun l0 => withFs xs1 fun l1 => match l0, l1 with
    | [a, b], [x, y] => some [rA [lineOut (badS a b x y) (nsub b y) (nsub x a) (minor a b x y) (nsub b y), lineOut (badS a b x y) (nsub b y) (nsub x a) (minor a b x y) (nsub x a), lineOut (badS a b x y) (nsub b y) (nsub x a) (minor a b x y) (minor a b x y)], rI (lineCod (badS a b x y) (nsub b y) (nsub x a) (minor a b x y))]
    | _, _ => none
  | _ => none
theorem ok_spec_LineThrough : SpecOK Try.prog 19 S_spec_LineThrough :=
  auto_ok (Γ := [(51, S_spec_l05Two), (52, S_spec_l01Small), (58, S_spec_l02Spot), (59, S_spec_l01Done)]) mixed 12 (ctx_cons ok_spec_l05Two (ctx_cons ok_spec_l01Small (ctx_cons ok_spec_l02Spot (ctx_cons ok_spec_l01Done ctx_nil)))) ⟨Try.func19, by kernel_rfl, by kernel_rfl⟩ (by
    intro args r h
    unfold S_spec_LineThrough at h
    split at h
    · obtain ⟨l0, e0, g0⟩ := withFs_spec h; clear h; subst e0
      obtain ⟨l1, e1, g1⟩ := withFs_spec g0; clear g0; subst e1
      split at g1
      · cases g1; kernel_rfl
      · cases g1
    · cases h)

noncomputable def S_laws_toSpot : Spec := fun args => match args with
  | [.v (.agg xs0)] => withFs xs0 fun l0 => match l0 with
    | [x, y] => some [rA [x, y]]
    | _ => none
  | _ => none
theorem ok_laws_toSpot : SpecOK Try.prog 20 S_laws_toSpot :=
  auto_ok (Γ := []) mixed 12 ctx_nil ⟨Try.func20, by kernel_rfl, by kernel_rfl⟩ (by
    intro args r h
    unfold S_laws_toSpot at h
    split at h
    · obtain ⟨l0, e0, g0⟩ := withFs_spec h; clear h; subst e0
      split at g0
      · cases g0; kernel_rfl
      · cases g0
    · cases h)

noncomputable def S_impl_areSpots_1 : Spec := fun args => match args with
  | [.v (.agg xs0)] => withFs xs0 fun l0 => match l0 with
    | [a, b] => some [rB (!spotF a b)]
    | _ => none
  | _ => none
theorem ok_impl_areSpots_1 : SpecOK Try.prog 100 S_impl_areSpots_1 :=
  auto_ok (Γ := [(85, S_impl_arePlain)]) mixed 12 (ctx_cons ok_impl_arePlain ctx_nil) ⟨Try.func100, by kernel_rfl, by kernel_rfl⟩ (by
    intro args r h
    unfold S_impl_areSpots_1 at h
    split at h
    · obtain ⟨l0, e0, g0⟩ := withFs_spec h; clear h; subst e0
      split at g0
      · cases g0; kernel_rfl
      · cases g0
    · cases h)

noncomputable def S_slices_IndexFunc_impl_Spot_impl_Spot : Spec := funcSpec Try.prog [(100, S_impl_areSpots_1)] 14 Try.f118
theorem ok_slices_IndexFunc_impl_Spot_impl_Spot : SpecOK Try.prog 118 S_slices_IndexFunc_impl_Spot_impl_Spot := func_sound (ctx_cons ok_impl_areSpots_1 ctx_nil) mixed 14 ⟨Try.func118, by kernel_rfl, by kernel_rfl⟩

noncomputable def S_slices_ContainsFunc_impl_Spot_impl_Spot : Spec := funcSpec Try.prog [(118, S_slices_IndexFunc_impl_Spot_impl_Spot), (100, S_impl_areSpots_1)] 14 Try.f99
theorem ok_slices_ContainsFunc_impl_Spot_impl_Spot : SpecOK Try.prog 99 S_slices_ContainsFunc_impl_Spot_impl_Spot := func_sound (ctx_cons ok_slices_IndexFunc_impl_Spot_impl_Spot (ctx_cons ok_impl_areSpots_1 ctx_nil)) mixed 14 ⟨Try.func99, by kernel_rfl, by kernel_rfl⟩

noncomputable def S_impl_areSpots : Spec := fun args => match args with
  | [.sl xs n] => withFs xs fun l => match n, l with
    | 1, [x0, x1] => some [rB (allSps [x0, x1])]
    | 2, [x0, x1, x2, x3] => some [rB (allSps [x0, x1, x2, x3])]
    | 3, [x0, x1, x2, x3, x4, x5] => some [rB (allSps [x0, x1, x2, x3, x4, x5])]
    | 4, [x0, x1, x2, x3, x4, x5, x6, x7] => some [rB (allSps [x0, x1, x2, x3, x4, x5, x6, x7])]
    | _, _ => none
  | _ => none
theorem ok_impl_areSpots : SpecOK Try.prog 60 S_impl_areSpots :=
  auto_ok (Γ := [(99, S_slices_ContainsFunc_impl_Spot_impl_Spot), (100, S_impl_areSpots_1)]) mixed 14 (ctx_cons ok_slices_ContainsFunc_impl_Spot_impl_Spot (ctx_cons ok_impl_areSpots_1 ctx_nil)) ⟨Try.func60, by kernel_rfl, by kernel_rfl⟩ (by
    intro args r h
    unfold S_impl_areSpots at h
    split at h
    · obtain ⟨l0, e0, g0⟩ := withFs_spec h; clear h; subst e0
      split at g0
      · rename_i x0 x1; cases g0
        have e : funcSpec Try.prog [(99, S_slices_ContainsFunc_impl_Spot_impl_Spot), (100, S_impl_areSpots_1)] 14 Try.f60 [.sl (fsL [x0, x1]) 1] = some [rB (!decide (idxB 0 [!spotF x0 x1] ≥ 0))] := by kernel_rfl
        rw [e, not_idxB]; rfl
      · rename_i x0 x1 x2 x3; cases g0
        have e : funcSpec Try.prog [(99, S_slices_ContainsFunc_impl_Spot_impl_Spot), (100, S_impl_areSpots_1)] 14 Try.f60 [.sl (fsL [x0, x1, x2, x3]) 2] = some [rB (!decide (idxB 0 [!spotF x0 x1, !spotF x2 x3] ≥ 0))] := by kernel_rfl
        rw [e, not_idxB]; rfl
      · rename_i x0 x1 x2 x3 x4 x5; cases g0
        have e : funcSpec Try.prog [(99, S_slices_ContainsFunc_impl_Spot_impl_Spot), (100, S_impl_areSpots_1)] 14 Try.f60 [.sl (fsL [x0, x1, x2, x3, x4, x5]) 3] = some [rB (!decide (idxB 0 [!spotF x0 x1, !spotF x2 x3, !spotF x4 x5] ≥ 0))] := by kernel_rfl
        rw [e, not_idxB]; rfl
      · rename_i x0 x1 x2 x3 x4 x5 x6 x7; cases g0
        have e : funcSpec Try.prog [(99, S_slices_ContainsFunc_impl_Spot_impl_Spot), (100, S_impl_areSpots_1)] 14 Try.f60 [.sl (fsL [x0, x1, x2, x3, x4, x5, x6, x7]) 4] = some [rB (!decide (idxB 0 [!spotF x0 x1, !spotF x2 x3, !spotF x4 x5, !spotF x6 x7] ≥ 0))] := by kernel_rfl
        rw [e, not_idxB]; rfl
      · cases g0
    · cases h)

noncomputable def S_impl_finite : Spec := fun args => match args with
  | [.v (.agg xs0)] => withFs xs0 fun l0 => match l0 with
    | [a, b, c] => some [rA [sel (!fin3 a b c) a, sel (!fin3 a b c) b, sel (!fin3 a b c) c], rI (cod (!fin3 a b c) 4 0)]
    | _ => none
  | _ => none
theorem ok_impl_finite : SpecOK Try.prog 61 S_impl_finite :=
  auto_ok (Γ := [(97, S_impl_areFinite)]) mixed 12 (ctx_cons ok_impl_areFinite ctx_nil) ⟨Try.func61, by kernel_rfl, by kernel_rfl⟩ (by
    intro args r h
    unfold S_impl_finite at h
    split at h
    · obtain ⟨l0, e0, g0⟩ := withFs_spec h; clear h; subst e0
      split at g0
      · rename_i a b c; cases g0; exact (show _ = some [rA [sel (!allF isFin [a, b, c]) a, sel (!allF isFin [a, b, c]) b, sel (!allF isFin [a, b, c]) c], rI (cod (!allF isFin [a, b, c]) 4 0)] by kernel_rfl).trans (by unfold fin3; simp only [ptOK, spotOK, allPts, allSps, all2, all3, ptF, spotF, allF, allL, sel, cod, List.map, allC_cons, allC_nil, bif_f, bif_t, Bool.not_not, Bool.not_and, Bool.not_or, Bool.and_true, Bool.or_false, Bool.and_assoc, Bool.or_assoc, code_ne, bif_bif, cond_true, cond_false])
      · cases g0
    · cases h)

noncomputable def S_impl_LineThrough : Spec := fun args => match args with
  | [.v (.agg xs0), .v (.agg xs1)] => withFs xs0 fun l0 => withFs xs1 fun l1 => match l0, l1 with
    | [a, b], [x, y] => some [rA [lineOut (badS a b x y) (nsub b y) (nsub x a) (minor a b x y) (nsub b y), lineOut (badS a b x y) (nsub b y) (nsub x a) (minor a b x y) (nsub x a), lineOut (badS a b x y) (nsub b y) (nsub x a) (minor a b x y) (minor a b x y)], rI (lineCod (badS a b x y) (nsub b y) (nsub x a) (minor a b x y))]
    | _, _ => none
  | _ => none
theorem ok_impl_LineThrough : SpecOK Try.prog 21 S_impl_LineThrough :=
  auto_ok (Γ := [(55, S_impl_minor), (56, S_impl_isSmall), (60, S_impl_areSpots), (61, S_impl_finite)]) mixed 12 (ctx_cons ok_impl_minor (ctx_cons ok_impl_isSmall (ctx_cons ok_impl_areSpots (ctx_cons ok_impl_finite ctx_nil)))) ⟨Try.func21, by kernel_rfl, by kernel_rfl⟩ (by
    intro args r h
    unfold S_impl_LineThrough at h
    split at h
    · obtain ⟨l0, e0, g0⟩ := withFs_spec h; clear h; subst e0
      obtain ⟨l1, e1, g1⟩ := withFs_spec g0; clear g0; subst e1
      split at g1
      · rename_i a b x y; cases g1; exact (show _ = some [rA [lineOut (!allSps [a, b, x, y]) (nsub b y) (nsub x a) (minor a b x y) (nsub b y), lineOut (!allSps [a, b, x, y]) (nsub b y) (nsub x a) (minor a b x y) (nsub x a), lineOut (!allSps [a, b, x, y]) (nsub b y) (nsub x a) (minor a b x y) (minor a b x y)], rI (lineCod (!allSps [a, b, x, y]) (nsub b y) (nsub x a) (minor a b x y))] by kernel_rfl).trans (by unfold badS; simp only [ptOK, spotOK, allPts, allSps, all2, all3, ptF, spotF, allF, allL, sel, cod, List.map, allC_cons, allC_nil, bif_f, bif_t, Bool.not_not, Bool.not_and, Bool.not_or, Bool.and_true, Bool.or_false, Bool.and_assoc, Bool.or_assoc, code_ne, bif_bif, cond_true, cond_false])
      · cases g1
    · cases h)

noncomputable def S_laws_eqPoint : Spec := fun args => match args with
  | [.v (.agg xs0), .v (.agg xs1)] => withFs xs0 fun l0 => withFs xs1 fun l1 => match l0, l1 with
    | [a, b, c], [x, y, z] => some [rB (allC [sameD (fwide a) (fwide x), sameD (fwide b) (fwide y), sameD (fwide c) (fwide z)])]
    | _, _ => none
  | _ => none
theorem ok_laws_eqPoint : SpecOK Try.prog 22 S_laws_eqPoint :=
  auto_ok (Γ := [(25, S_laws_sameFloat)]) mixed 12 (ctx_cons ok_laws_sameFloat ctx_nil) ⟨Try.func22, by kernel_rfl, by kernel_rfl⟩ (by
    intro args r h
    unfold S_laws_eqPoint at h
    split at h
    · obtain ⟨l0, e0, g0⟩ := withFs_spec h; clear h; subst e0
      obtain ⟨l1, e1, g1⟩ := withFs_spec g0; clear g0; subst e1
      split at g1
      · cases g1; kernel_rfl
      · cases g1
    · cases h)

noncomputable def S_laws_FnExactLineThrough : Spec := fun args => match args with
  | [.v (.agg xs0), .v (.agg xs1)] => withFs xs0 fun l0 => withFs xs1 fun l1 => match l0, l1 with
    | [a, b], [x, y] => some [rB (bif (bif (!allC [sameD (fwide (lineOut (badS a b x y) (nsub b y) (nsub x a) (minor a b x y) (nsub b y))) (fwide (lineOut (badS a b x y) (nsub b y) (nsub x a) (minor a b x y) (nsub b y))), sameD (fwide (lineOut (badS a b x y) (nsub b y) (nsub x a) (minor a b x y) (nsub x a))) (fwide (lineOut (badS a b x y) (nsub b y) (nsub x a) (minor a b x y) (nsub x a))), sameD (fwide (lineOut (badS a b x y) (nsub b y) (nsub x a) (minor a b x y) (minor a b x y))) (fwide (lineOut (badS a b x y) (nsub b y) (nsub x a) (minor a b x y) (minor a b x y)))]) then true else ((((lineCod (badS a b x y) (nsub b y) (nsub x a) (minor a b x y))) : Int) != ((lineCod (badS a b x y) (nsub b y) (nsub x a) (minor a b x y))))) then false else true)]
    | _, _ => none
  | _ => none
theorem ok_laws_FnExactLineThrough : SpecOK Try.prog 4 S_laws_FnExactLineThrough :=
  auto_ok (Γ := [(19, S_spec_LineThrough), (20, S_laws_toSpot), (21, S_impl_LineThrough), (22, S_laws_eqPoint)]) mixed 12 (ctx_cons ok_spec_LineThrough (ctx_cons ok_laws_toSpot (ctx_cons ok_impl_LineThrough (ctx_cons ok_laws_eqPoint ctx_nil)))) ⟨Try.func4, by kernel_rfl, by kernel_rfl⟩ (by
    intro args r h
    unfold S_laws_FnExactLineThrough at h
    split at h
    · obtain ⟨l0, e0, g0⟩ := withFs_spec h; clear h; subst e0
      obtain ⟨l1, e1, g1⟩ := withFs_spec g0; clear g0; subst e1
      split at g1
      · cases g1; kernel_rfl
      · cases g1
    · cases h)

noncomputable def S_spec_DetOf : Spec := fun args => match args with
  | [.v (.agg xs0)] => withFs xs0 fun l0 => match l0 with
    | [a, b, c, d, e, f, g, h, i] => some [rF (detOf a b c d e f g h i)]
    | _ => none
  | _ => none
theorem ok_spec_DetOf : SpecOK Try.prog 76 S_spec_DetOf :=
  auto_ok (Γ := [(51, S_spec_l05Two)]) mixed 12 (ctx_cons ok_spec_l05Two ctx_nil) ⟨Try.func76, by kernel_rfl, by kernel_rfl⟩ (by
    intro args r h
    unfold S_spec_DetOf at h
    split at h
    · obtain ⟨l0, e0, g0⟩ := withFs_spec h; clear h; subst e0
      split at g0
      · cases g0; kernel_rfl
      · cases g0
    · cases h)

noncomputable def S_spec_l05Plains : Spec := fun args => match args with
  | [.ref xs0] => withFs xs0 fun l0 => match l0 with
    | [a, b, c, d, e, f, g, h, i] => some [rB (allL isPlain [a, b, c, d, e, f, g, h, i])]
    | _ => none
  | _ => none
theorem ok_spec_l05Plains : SpecOK Try.prog 83 S_spec_l05Plains :=
  auto_ok (Γ := [(65, S_spec_l01Plain)]) mixed 12 (ctx_cons ok_spec_l01Plain ctx_nil) ⟨Try.func83, by kernel_rfl, by kernel_rfl⟩ (by
    intro args r h
    unfold S_spec_l05Plains at h
    split at h
    · obtain ⟨l0, e0, g0⟩ := withFs_spec h; clear h; subst e0
      split at g0
      · cases g0; kernel_rfl
      · cases g0
    · cases h)

noncomputable def S_spec_l05Ok : Spec := fun args => match args with
  | [.ref xs0] => withFs xs0 fun l0 => match l0 with
    | [a, b, c, d, e, f, g, h, i] => some [rB (validMap a b c d e f g h i)]
    | _ => none
  | _ => none
theorem ok_spec_l05Ok : SpecOK Try.prog 74 S_spec_l05Ok :=
  auto_ok (Γ := [(52, S_spec_l01Small), (76, S_spec_DetOf), (83, S_spec_l05Plains)]) mixed 12 (ctx_cons ok_spec_l01Small (ctx_cons ok_spec_DetOf (ctx_cons ok_spec_l05Plains ctx_nil))) ⟨Try.func74, by kernel_rfl, by kernel_rfl⟩ (by
    intro args r h
    unfold S_spec_l05Ok at h
    split at h
    · obtain ⟨l0, e0, g0⟩ := withFs_spec h; clear h; subst e0
      split at g0
      · cases g0; kernel_rfl
      · cases g0
    · cases h)

noncomputable def S_spec_l05Row : Spec := funcSpec Try.prog [] 14 Try.f75
theorem ok_spec_l05Row : SpecOK Try.prog 75 S_spec_l05Row := func_sound ctx_nil mixed 14 ⟨Try.func75, by kernel_rfl, by kernel_rfl⟩

noncomputable def S_spec_StretchAt : Spec := fun args => match args with
  | [.v (.agg xs0), .v (.agg xs1)] => withFs xs0 fun l0 => withFs xs1 fun l1 => match l0, l1 with
    | [a, b, c, d, e, f, g, h, i], [x, y] => some [rF (sel (badM a b c d e f g h i x y) (sel (small (rowOf g h i x y)) (sel (!isFin (stretch a b c d e f g h i x y)) (stretch a b c d e f g h i x y)))), rI (cod (badM a b c d e f g h i x y) 1 (cod (small (rowOf g h i x y)) 4 (cod (!isFin (stretch a b c d e f g h i x y)) 4 0)))]
    | _, _ => none
  | _ => none
theorem ok_spec_StretchAt : SpecOK Try.prog 33 S_spec_StretchAt :=
  auto_ok (Γ := [(52, S_spec_l01Small), (53, S_spec_l01Finite), (58, S_spec_l02Spot), (74, S_spec_l05Ok), (75, S_spec_l05Row), (76, S_spec_DetOf)]) mixed 12 (ctx_cons ok_spec_l01Small (ctx_cons ok_spec_l01Finite (ctx_cons ok_spec_l02Spot (ctx_cons ok_spec_l05Ok (ctx_cons ok_spec_l05Row (ctx_cons ok_spec_DetOf ctx_nil)))))) ⟨Try.func33, by kernel_rfl, by kernel_rfl⟩ (by
    intro args r h
    unfold S_spec_StretchAt at h
    split at h
    · obtain ⟨l0, e0, g0⟩ := withFs_spec h; clear h; subst e0
      obtain ⟨l1, e1, g1⟩ := withFs_spec g0; clear g0; subst e1
      split at g1
      · cases g1; kernel_rfl
      · cases g1
    · cases h)

noncomputable def S_laws_toMap : Spec := fun args => match args with
  | [.v (.agg xs0)] => withFs xs0 fun l0 => match l0 with
    | [a, b, c, d, e, f, g, h, i] => some [rA [a, b, c, d, e, f, g, h, i]]
    | _ => none
  | _ => none
theorem ok_laws_toMap : SpecOK Try.prog 34 S_laws_toMap :=
  auto_ok (Γ := []) mixed 12 ctx_nil ⟨Try.func34, by kernel_rfl, by kernel_rfl⟩ (by
    intro args r h
    unfold S_laws_toMap at h
    split at h
    · obtain ⟨l0, e0, g0⟩ := withFs_spec h; clear h; subst e0
      split at g0
      · cases g0; kernel_rfl
      · cases g0
    · cases h)

noncomputable def S_impl_number : Spec := fun args => match args with
  | [.v (.s (.c (.f .f32 a)))] => some [rF (sel (!isFin a) a), rI (cod (!isFin a) 4 0)]
  | _ => none
theorem ok_impl_number : SpecOK Try.prog 72 S_impl_number :=
  auto_ok (Γ := [(105, S_impl_isFinite)]) mixed 12 (ctx_cons ok_impl_isFinite ctx_nil) ⟨Try.func72, by kernel_rfl, by kernel_rfl⟩ (by
    intro args r h
    unfold S_impl_number at h
    split at h
    · cases h; kernel_rfl
    · cases h)

noncomputable def S_impl_DetOf : Spec := fun args => match args with
  | [.v (.agg xs0)] => withFs xs0 fun l0 => match l0 with
    | [a, b, c, d, e, f, g, h, i] => some [rF (detOf a b c d e f g h i)]
    | _ => none
  | _ => none
theorem ok_impl_DetOf : SpecOK Try.prog 79 S_impl_DetOf :=
  auto_ok (Γ := [(55, S_impl_minor)]) mixed 12 (ctx_cons ok_impl_minor ctx_nil) ⟨Try.func79, by kernel_rfl, by kernel_rfl⟩ (by
    intro args r h
    unfold S_impl_DetOf at h
    split at h
    · obtain ⟨l0, e0, g0⟩ := withFs_spec h; clear h; subst e0
      split at g0
      · cases g0; kernel_rfl
      · cases g0
    · cases h)

noncomputable def S_impl_ValidMap : Spec := fun args => match args with
  | [.v (.agg xs0)] => withFs xs0 fun l0 => match l0 with
    | [a, b, c, d, e, f, g, h, i] => some [rB (bif allF isPlain [a, b, c, d, e, f, g, h, i] then !small (detOf a b c d e f g h i) else false)]
    | _ => none
  | _ => none
theorem ok_impl_ValidMap : SpecOK Try.prog 89 S_impl_ValidMap :=
  auto_ok (Γ := [(56, S_impl_isSmall), (79, S_impl_DetOf), (85, S_impl_arePlain)]) mixed 12 (ctx_cons ok_impl_isSmall (ctx_cons ok_impl_DetOf (ctx_cons ok_impl_arePlain ctx_nil))) ⟨Try.func89, by kernel_rfl, by kernel_rfl⟩ (by
    intro args r h
    unfold S_impl_ValidMap at h
    split at h
    · obtain ⟨l0, e0, g0⟩ := withFs_spec h; clear h; subst e0
      split at g0
      · cases g0; kernel_rfl
      · cases g0
    · cases h)

noncomputable def S_impl_when : Spec := fun args => match args with
  | [.v (.s (.c (.b b))), .v (.s (.c (.i .i64 n)))] => some [rI (bif b then n else 0)]
  | _ => none
theorem ok_impl_when : SpecOK Try.prog 106 S_impl_when :=
  auto_ok (Γ := []) mixed 12 ctx_nil ⟨Try.func106, by kernel_rfl, by kernel_rfl⟩ (by
    intro args r h
    unfold S_impl_when at h
    split at h
    · cases h; kernel_rfl
    · cases h)

noncomputable def S_impl_mapCode : Spec := funcSpec Try.prog [(60, S_impl_areSpots), (89, S_impl_ValidMap), (106, S_impl_when)] 14 Try.f77
theorem ok_impl_mapCode : SpecOK Try.prog 77 S_impl_mapCode := func_sound (ctx_cons ok_impl_areSpots (ctx_cons ok_impl_ValidMap (ctx_cons ok_impl_when ctx_nil))) mixed 14 ⟨Try.func77, by kernel_rfl, by kernel_rfl⟩

noncomputable def S_impl_Map_row : Spec := funcSpec Try.prog [] 14 Try.f78
theorem ok_impl_Map_row : SpecOK Try.prog 78 S_impl_Map_row := func_sound ctx_nil mixed 14 ⟨Try.func78, by kernel_rfl, by kernel_rfl⟩

noncomputable def S_impl_StretchAt : Spec := fun args => match args with
  | [.v (.agg xs0), .v (.agg xs1)] => withFs xs0 fun l0 => withFs xs1 fun l1 => match l0, l1 with
    | [a, b, c, d, e, f, g, h, i], [x, y] => some [rF (sel (badM a b c d e f g h i x y) (sel (small (rowOf g h i x y)) (sel (!isFin (stretch a b c d e f g h i x y)) (stretch a b c d e f g h i x y)))), rI (cod (badM a b c d e f g h i x y) 1 (cod (small (rowOf g h i x y)) 4 (cod (!isFin (stretch a b c d e f g h i x y)) 4 0)))]
    | _, _ => none
  | _ => none
theorem ok_impl_StretchAt : SpecOK Try.prog 35 S_impl_StretchAt :=
  auto_ok (Γ := [(56, S_impl_isSmall), (72, S_impl_number), (77, S_impl_mapCode), (78, S_impl_Map_row), (79, S_impl_DetOf)]) mixed 12 (ctx_cons ok_impl_isSmall (ctx_cons ok_impl_number (ctx_cons ok_impl_mapCode (ctx_cons ok_impl_Map_row (ctx_cons ok_impl_DetOf ctx_nil))))) ⟨Try.func35, by kernel_rfl, by kernel_rfl⟩ (by
    intro args r h
    unfold S_impl_StretchAt at h
    split at h
    · obtain ⟨l0, e0, g0⟩ := withFs_spec h; clear h; subst e0
      obtain ⟨l1, e1, g1⟩ := withFs_spec g0; clear g0; subst e1
      split at g1
      · rename_i a b c d e f g h i x y; cases g1; exact (show _ = some [rF (sel ((bif (bif !(bif allF isPlain [a, b, c, d, e, f, g, h, i] then !small (detOf a b c d e f g h i) else false) then true else !allSps [x, y]) then (1 : Int) else 0) != 0) (sel (small (rowOf g h i x y)) (sel (!isFin (stretch a b c d e f g h i x y)) (stretch a b c d e f g h i x y)))), rI (cod ((bif (bif !(bif allF isPlain [a, b, c, d, e, f, g, h, i] then !small (detOf a b c d e f g h i) else false) then true else !allSps [x, y]) then (1 : Int) else 0) != 0) (bif (bif !(bif allF isPlain [a, b, c, d, e, f, g, h, i] then !small (detOf a b c d e f g h i) else false) then true else !allSps [x, y]) then (1 : Int) else 0) (cod (small (rowOf g h i x y)) 4 (cod (!isFin (stretch a b c d e f g h i x y)) 4 0)))] by kernel_rfl).trans (by rw [validMapF, code_ne, cod_code]; unfold badM; rw [allSps1])
      · cases g1
    · cases h)

noncomputable def S_laws_FnExactStretchAt : Spec := fun args => match args with
  | [.v (.agg xs0), .v (.agg xs1)] => withFs xs0 fun l0 => withFs xs1 fun l1 => match l0, l1 with
    | [a, b, c, d, e, f, g, h, i], [x, y] => some [rB (bif (bif (!sameD (fwide ((sel (badM a b c d e f g h i x y) (sel (small (rowOf g h i x y)) (sel (!isFin (stretch a b c d e f g h i x y)) (stretch a b c d e f g h i x y)))))) (fwide ((sel (badM a b c d e f g h i x y) (sel (small (rowOf g h i x y)) (sel (!isFin (stretch a b c d e f g h i x y)) (stretch a b c d e f g h i x y))))))) then true else ((((cod (badM a b c d e f g h i x y) 1 (cod (small (rowOf g h i x y)) 4 (cod (!isFin (stretch a b c d e f g h i x y)) 4 0)))) : Int) != ((cod (badM a b c d e f g h i x y) 1 (cod (small (rowOf g h i x y)) 4 (cod (!isFin (stretch a b c d e f g h i x y)) 4 0)))))) then false else true)]
    | _, _ => none
  | _ => none
theorem ok_laws_FnExactStretchAt : SpecOK Try.prog 8 S_laws_FnExactStretchAt :=
  auto_ok (Γ := [(20, S_laws_toSpot), (25, S_laws_sameFloat), (33, S_spec_StretchAt), (34, S_laws_toMap), (35, S_impl_StretchAt)]) mixed 12 (ctx_cons ok_laws_toSpot (ctx_cons ok_laws_sameFloat (ctx_cons ok_spec_StretchAt (ctx_cons ok_laws_toMap (ctx_cons ok_impl_StretchAt ctx_nil))))) ⟨Try.func8, by kernel_rfl, by kernel_rfl⟩ (by
    intro args r h
    unfold S_laws_FnExactStretchAt at h
    split at h
    · obtain ⟨l0, e0, g0⟩ := withFs_spec h; clear h; subst e0
      obtain ⟨l1, e1, g1⟩ := withFs_spec g0; clear g0; subst e1
      split at g1
      · cases g1; kernel_rfl
      · cases g1
    · cases h)

noncomputable def S_spec_l05Apply : Spec := fun args => match args with
  | [.ref xs0, .v (.agg xs1)] => withFs xs0 fun l0 => withFs xs1 fun l1 => match l0, l1 with
    | [a, b, c, d, e, f, g, h, i], [x, y] => some [rA [sel (small (rowOf g h i x y)) (sel (!fin2 (ndiv (rowOf a b c x y) (rowOf g h i x y)) (ndiv (rowOf d e f x y) (rowOf g h i x y))) (ndiv (rowOf a b c x y) (rowOf g h i x y))), sel (small (rowOf g h i x y)) (sel (!fin2 (ndiv (rowOf a b c x y) (rowOf g h i x y)) (ndiv (rowOf d e f x y) (rowOf g h i x y))) (ndiv (rowOf d e f x y) (rowOf g h i x y)))], rI (cod (small (rowOf g h i x y)) 4 (cod (!fin2 (ndiv (rowOf a b c x y) (rowOf g h i x y)) (ndiv (rowOf d e f x y) (rowOf g h i x y))) 4 0))]
    | _, _ => none
  | _ => none
theorem ok_spec_l05Apply : SpecOK Try.prog 87 S_spec_l05Apply :=
  auto_ok (Γ := [(52, S_spec_l01Small), (53, S_spec_l01Finite), (75, S_spec_l05Row)]) mixed 12 (ctx_cons ok_spec_l01Small (ctx_cons ok_spec_l01Finite (ctx_cons ok_spec_l05Row ctx_nil))) ⟨Try.func87, by kernel_rfl, by kernel_rfl⟩ (by
    intro args r h
    unfold S_spec_l05Apply at h
    split at h
    · obtain ⟨l0, e0, g0⟩ := withFs_spec h; clear h; subst e0
      obtain ⟨l1, e1, g1⟩ := withFs_spec g0; clear g0; subst e1
      split at g1
      · rename_i a b c d e f g h i x y; cases g1; exact (show _ = some [rA [sel (small (rowOf g h i x y)) (sel (bif !isFin (ndiv (rowOf a b c x y) (rowOf g h i x y)) then true else !isFin (ndiv (rowOf d e f x y) (rowOf g h i x y))) (ndiv (rowOf a b c x y) (rowOf g h i x y))), sel (small (rowOf g h i x y)) (sel (bif !isFin (ndiv (rowOf a b c x y) (rowOf g h i x y)) then true else !isFin (ndiv (rowOf d e f x y) (rowOf g h i x y))) (ndiv (rowOf d e f x y) (rowOf g h i x y)))], rI (cod (small (rowOf g h i x y)) 4 (cod (bif !isFin (ndiv (rowOf a b c x y) (rowOf g h i x y)) then true else !isFin (ndiv (rowOf d e f x y) (rowOf g h i x y))) 4 0))] by kernel_rfl).trans (by unfold fin2; simp only [ptOK, spotOK, allPts, allSps, all2, all3, ptF, spotF, allF, allL, sel, cod, List.map, allC_cons, allC_nil, bif_f, bif_t, Bool.not_not, Bool.not_and, Bool.not_or, Bool.and_true, Bool.or_false, Bool.and_assoc, Bool.or_assoc, code_ne, bif_bif, cond_true, cond_false])
      · cases g1
    · cases h)

noncomputable def S_spec_ApplyMap : Spec := fun args => match args with
  | [.v (.agg xs0), .v (.agg xs1)] => withFs xs0 fun l0 => withFs xs1 fun l1 => match l0, l1 with
    | [a, b, c, d, e, f, g, h, i], [x, y] => some [rA [sel (badM a b c d e f g h i x y) (sel (small (rowOf g h i x y)) (sel (!fin2 (ndiv (rowOf a b c x y) (rowOf g h i x y)) (ndiv (rowOf d e f x y) (rowOf g h i x y))) (ndiv (rowOf a b c x y) (rowOf g h i x y)))), sel (badM a b c d e f g h i x y) (sel (small (rowOf g h i x y)) (sel (!fin2 (ndiv (rowOf a b c x y) (rowOf g h i x y)) (ndiv (rowOf d e f x y) (rowOf g h i x y))) (ndiv (rowOf d e f x y) (rowOf g h i x y))))], rI (cod (badM a b c d e f g h i x y) 1 (cod (small (rowOf g h i x y)) 4 (cod (!fin2 (ndiv (rowOf a b c x y) (rowOf g h i x y)) (ndiv (rowOf d e f x y) (rowOf g h i x y))) 4 0)))]
    | _, _ => none
  | _ => none
theorem ok_spec_ApplyMap : SpecOK Try.prog 42 S_spec_ApplyMap :=
  auto_ok (Γ := [(58, S_spec_l02Spot), (74, S_spec_l05Ok), (87, S_spec_l05Apply)]) mixed 12 (ctx_cons ok_spec_l02Spot (ctx_cons ok_spec_l05Ok (ctx_cons ok_spec_l05Apply ctx_nil))) ⟨Try.func42, by kernel_rfl, by kernel_rfl⟩ (by
    intro args r h
    unfold S_spec_ApplyMap at h
    split at h
    · obtain ⟨l0, e0, g0⟩ := withFs_spec h; clear h; subst e0
      obtain ⟨l1, e1, g1⟩ := withFs_spec g0; clear g0; subst e1
      split at g1
      · cases g1; kernel_rfl
      · cases g1
    · cases h)

noncomputable def S_impl_Map_apply : Spec := fun args => match args with
  | [.ref xs0, .v (.agg xs1)] => withFs xs0 fun l0 => withFs xs1 fun l1 => match l0, l1 with
    | [a, b, c, d, e, f, g, h, i], [x, y] => some [rA [sel (small (rowOf g h i x y)) (sel (!fin2 (ndiv (rowOf a b c x y) (rowOf g h i x y)) (ndiv (rowOf d e f x y) (rowOf g h i x y))) (ndiv (rowOf a b c x y) (rowOf g h i x y))), sel (small (rowOf g h i x y)) (sel (!fin2 (ndiv (rowOf a b c x y) (rowOf g h i x y)) (ndiv (rowOf d e f x y) (rowOf g h i x y))) (ndiv (rowOf d e f x y) (rowOf g h i x y)))], rI (cod (small (rowOf g h i x y)) 4 (cod (!fin2 (ndiv (rowOf a b c x y) (rowOf g h i x y)) (ndiv (rowOf d e f x y) (rowOf g h i x y))) 4 0))]
    | _, _ => none
  | _ => none
theorem ok_impl_Map_apply : SpecOK Try.prog 88 S_impl_Map_apply :=
  auto_ok (Γ := [(56, S_impl_isSmall), (57, S_impl_finiteSpot), (78, S_impl_Map_row)]) mixed 12 (ctx_cons ok_impl_isSmall (ctx_cons ok_impl_finiteSpot (ctx_cons ok_impl_Map_row ctx_nil))) ⟨Try.func88, by kernel_rfl, by kernel_rfl⟩ (by
    intro args r h
    unfold S_impl_Map_apply at h
    split at h
    · obtain ⟨l0, e0, g0⟩ := withFs_spec h; clear h; subst e0
      obtain ⟨l1, e1, g1⟩ := withFs_spec g0; clear g0; subst e1
      split at g1
      · cases g1; kernel_rfl
      · cases g1
    · cases h)

noncomputable def S_impl_ApplyMap : Spec := fun args => match args with
  | [.v (.agg xs0), .v (.agg xs1)] => withFs xs0 fun l0 => withFs xs1 fun l1 => match l0, l1 with
    | [a, b, c, d, e, f, g, h, i], [x, y] => some [rA [sel (badM a b c d e f g h i x y) (sel (small (rowOf g h i x y)) (sel (!fin2 (ndiv (rowOf a b c x y) (rowOf g h i x y)) (ndiv (rowOf d e f x y) (rowOf g h i x y))) (ndiv (rowOf a b c x y) (rowOf g h i x y)))), sel (badM a b c d e f g h i x y) (sel (small (rowOf g h i x y)) (sel (!fin2 (ndiv (rowOf a b c x y) (rowOf g h i x y)) (ndiv (rowOf d e f x y) (rowOf g h i x y))) (ndiv (rowOf d e f x y) (rowOf g h i x y))))], rI (cod (badM a b c d e f g h i x y) 1 (cod (small (rowOf g h i x y)) 4 (cod (!fin2 (ndiv (rowOf a b c x y) (rowOf g h i x y)) (ndiv (rowOf d e f x y) (rowOf g h i x y))) 4 0)))]
    | _, _ => none
  | _ => none
theorem ok_impl_ApplyMap : SpecOK Try.prog 43 S_impl_ApplyMap :=
  auto_ok (Γ := [(77, S_impl_mapCode), (88, S_impl_Map_apply)]) mixed 12 (ctx_cons ok_impl_mapCode (ctx_cons ok_impl_Map_apply ctx_nil)) ⟨Try.func43, by kernel_rfl, by kernel_rfl⟩ (by
    intro args r h
    unfold S_impl_ApplyMap at h
    split at h
    · obtain ⟨l0, e0, g0⟩ := withFs_spec h; clear h; subst e0
      obtain ⟨l1, e1, g1⟩ := withFs_spec g0; clear g0; subst e1
      split at g1
      · rename_i a b c d e f g h i x y; cases g1; exact (show _ = some [rA [sel ((bif (bif !(bif allF isPlain [a, b, c, d, e, f, g, h, i] then !small (detOf a b c d e f g h i) else false) then true else !allSps [x, y]) then (1 : Int) else 0) != 0) (sel (small (rowOf g h i x y)) (sel (!fin2 (ndiv (rowOf a b c x y) (rowOf g h i x y)) (ndiv (rowOf d e f x y) (rowOf g h i x y))) (ndiv (rowOf a b c x y) (rowOf g h i x y)))), sel ((bif (bif !(bif allF isPlain [a, b, c, d, e, f, g, h, i] then !small (detOf a b c d e f g h i) else false) then true else !allSps [x, y]) then (1 : Int) else 0) != 0) (sel (small (rowOf g h i x y)) (sel (!fin2 (ndiv (rowOf a b c x y) (rowOf g h i x y)) (ndiv (rowOf d e f x y) (rowOf g h i x y))) (ndiv (rowOf d e f x y) (rowOf g h i x y))))], rI (cod ((bif (bif !(bif allF isPlain [a, b, c, d, e, f, g, h, i] then !small (detOf a b c d e f g h i) else false) then true else !allSps [x, y]) then (1 : Int) else 0) != 0) (bif (bif !(bif allF isPlain [a, b, c, d, e, f, g, h, i] then !small (detOf a b c d e f g h i) else false) then true else !allSps [x, y]) then (1 : Int) else 0) (cod (small (rowOf g h i x y)) 4 (cod (!fin2 (ndiv (rowOf a b c x y) (rowOf g h i x y)) (ndiv (rowOf d e f x y) (rowOf g h i x y))) 4 0)))] by kernel_rfl).trans (by rw [validMapF, code_ne, cod_code]; unfold badM; rw [allSps1])
      · cases g1
    · cases h)

noncomputable def S_laws_FnExactApplyMap : Spec := fun args => match args with
  | [.v (.agg xs0), .v (.agg xs1)] => withFs xs0 fun l0 => withFs xs1 fun l1 => match l0, l1 with
    | [a, b, c, d, e, f, g, h, i], [x, y] => some [rB (bif (bif (!allC [sameD (fwide (sel (badM a b c d e f g h i x y) (sel (small (rowOf g h i x y)) (sel (!fin2 (ndiv (rowOf a b c x y) (rowOf g h i x y)) (ndiv (rowOf d e f x y) (rowOf g h i x y))) (ndiv (rowOf a b c x y) (rowOf g h i x y)))))) (fwide (sel (badM a b c d e f g h i x y) (sel (small (rowOf g h i x y)) (sel (!fin2 (ndiv (rowOf a b c x y) (rowOf g h i x y)) (ndiv (rowOf d e f x y) (rowOf g h i x y))) (ndiv (rowOf a b c x y) (rowOf g h i x y)))))), sameD (fwide (sel (badM a b c d e f g h i x y) (sel (small (rowOf g h i x y)) (sel (!fin2 (ndiv (rowOf a b c x y) (rowOf g h i x y)) (ndiv (rowOf d e f x y) (rowOf g h i x y))) (ndiv (rowOf d e f x y) (rowOf g h i x y)))))) (fwide (sel (badM a b c d e f g h i x y) (sel (small (rowOf g h i x y)) (sel (!fin2 (ndiv (rowOf a b c x y) (rowOf g h i x y)) (ndiv (rowOf d e f x y) (rowOf g h i x y))) (ndiv (rowOf d e f x y) (rowOf g h i x y))))))]) then true else ((((cod (badM a b c d e f g h i x y) 1 (cod (small (rowOf g h i x y)) 4 (cod (!fin2 (ndiv (rowOf a b c x y) (rowOf g h i x y)) (ndiv (rowOf d e f x y) (rowOf g h i x y))) 4 0)))) : Int) != ((cod (badM a b c d e f g h i x y) 1 (cod (small (rowOf g h i x y)) 4 (cod (!fin2 (ndiv (rowOf a b c x y) (rowOf g h i x y)) (ndiv (rowOf d e f x y) (rowOf g h i x y))) 4 0)))))) then false else true)]
    | _, _ => none
  | _ => none
theorem ok_laws_FnExactApplyMap : SpecOK Try.prog 11 S_laws_FnExactApplyMap :=
  auto_ok (Γ := [(18, S_laws_eqSpot), (20, S_laws_toSpot), (34, S_laws_toMap), (42, S_spec_ApplyMap), (43, S_impl_ApplyMap)]) mixed 12 (ctx_cons ok_laws_eqSpot (ctx_cons ok_laws_toSpot (ctx_cons ok_laws_toMap (ctx_cons ok_spec_ApplyMap (ctx_cons ok_impl_ApplyMap ctx_nil))))) ⟨Try.func11, by kernel_rfl, by kernel_rfl⟩ (by
    intro args r h
    unfold S_laws_FnExactApplyMap at h
    split at h
    · obtain ⟨l0, e0, g0⟩ := withFs_spec h; clear h; subst e0
      obtain ⟨l1, e1, g1⟩ := withFs_spec g0; clear g0; subst e1
      split at g1
      · cases g1; kernel_rfl
      · cases g1
    · cases h)

noncomputable def S_spec_ValidPoint : Spec := fun args => match args with
  | [.v (.agg xs0)] => withFs xs0 fun l0 => match l0 with
    | [a, b, c] => some [rB (ptOK a b c)]
    | _ => none
  | _ => none
theorem ok_spec_ValidPoint : SpecOK Try.prog 90 S_spec_ValidPoint :=
  auto_ok (Γ := [(50, S_spec_l01Point)]) mixed 12 (ctx_cons ok_spec_l01Point ctx_nil) ⟨Try.func90, by kernel_rfl, by kernel_rfl⟩ (by
    intro args r h
    unfold S_spec_ValidPoint at h
    split at h
    · obtain ⟨l0, e0, g0⟩ := withFs_spec h; clear h; subst e0
      split at g0
      · cases g0; kernel_rfl
      · cases g0
    · cases h)

abbrev S_math_sqrt : Spec := S_sqrt
theorem ok_math_sqrt : SpecOK Try.prog 126 S_math_sqrt := ok_sqrt (fn := Try.f126) ⟨Try.func126, by kernel_rfl, by kernel_rfl, by kernel_rfl, by kernel_rfl⟩

noncomputable def S_math_Sqrt : Spec := fun args => match args with
  | [.v (.s (.c (.g x)))] => some [.s (.c (.g (fsqrt x)))]
  | _ => none
theorem ok_math_Sqrt : SpecOK Try.prog 122 S_math_Sqrt :=
  auto_ok (Γ := [(126, S_math_sqrt)]) mixed 12 (ctx_cons ok_math_sqrt ctx_nil) ⟨Try.func122, by kernel_rfl, by kernel_rfl⟩ (by
    intro args r h
    unfold S_math_Sqrt at h
    split at h
    · cases h; kernel_rfl
    · cases h)

noncomputable def S_spec_l01Root : Spec := fun args => match args with
  | [.v (.s (.c (.f .f32 a)))] => some [rF (root a)]
  | _ => none
theorem ok_spec_l01Root : SpecOK Try.prog 120 S_spec_l01Root :=
  auto_ok (Γ := [(122, S_math_Sqrt)]) mixed 12 (ctx_cons ok_math_Sqrt ctx_nil) ⟨Try.func120, by kernel_rfl, by kernel_rfl⟩ (by
    intro args r h
    unfold S_spec_l01Root at h
    split at h
    · cases h; kernel_rfl
    · cases h)

noncomputable def S_spec_DotOf : Spec := fun args => match args with
  | [.v (.agg xs0), .v (.agg xs1)] => withFs xs0 fun l0 => withFs xs1 fun l1 => match l0, l1 with
    | [a, b, c], [x, y, z] => some [rF (dot a b c x y z)]
    | _, _ => none
  | _ => none
theorem ok_spec_DotOf : SpecOK Try.prog 121 S_spec_DotOf :=
  auto_ok (Γ := []) mixed 12 ctx_nil ⟨Try.func121, by kernel_rfl, by kernel_rfl⟩ (by
    intro args r h
    unfold S_spec_DotOf at h
    split at h
    · obtain ⟨l0, e0, g0⟩ := withFs_spec h; clear h; subst e0
      obtain ⟨l1, e1, g1⟩ := withFs_spec g0; clear g0; subst e1
      split at g1
      · cases g1; kernel_rfl
      · cases g1
    · cases h)

noncomputable def S_spec_LengthOf : Spec := fun args => match args with
  | [.v (.agg xs0)] => withFs xs0 fun l0 => match l0 with
    | [a, b, c] => some [rF (len a b c)]
    | _ => none
  | _ => none
theorem ok_spec_LengthOf : SpecOK Try.prog 107 S_spec_LengthOf :=
  auto_ok (Γ := [(120, S_spec_l01Root), (121, S_spec_DotOf)]) mixed 12 (ctx_cons ok_spec_l01Root (ctx_cons ok_spec_DotOf ctx_nil)) ⟨Try.func107, by kernel_rfl, by kernel_rfl⟩ (by
    intro args r h
    unfold S_spec_LengthOf at h
    split at h
    · obtain ⟨l0, e0, g0⟩ := withFs_spec h; clear h; subst e0
      split at g0
      · cases g0; kernel_rfl
      · cases g0
    · cases h)

noncomputable def S_spec_l04Ok : Spec := fun args => match args with
  | [.ref xs0] => withM [.f, .f, .f, .b, .f] xs0 fun l0 b0 i0 => match l0, b0, i0 with
    | [a, b, c, t], [s], [] => some [rB (okLamp a b c s t)]
    | _, _, _ => none
  | _ => none
theorem ok_spec_l04Ok : SpecOK Try.prog 80 S_spec_l04Ok :=
  auto_ok (Γ := [(90, S_spec_ValidPoint), (107, S_spec_LengthOf)]) mixed 12 (ctx_cons ok_spec_ValidPoint (ctx_cons ok_spec_LengthOf ctx_nil)) ⟨Try.func80, by kernel_rfl, by kernel_rfl⟩ (by
    intro args r h
    unfold S_spec_l04Ok at h
    split at h
    · obtain ⟨l0, b0, i0, e0, g0⟩ := withM_spec h; clear h; subst e0
      split at g0
      · cases g0; kernel_rfl
      · cases g0
    · cases h)

noncomputable def S_spec_ValidLamp : Spec := fun args => match args with
  | [.v (.agg xs0)] => withM [.f, .f, .f, .b, .f] xs0 fun l0 b0 i0 => match l0, b0, i0 with
    | [a, b, c, t], [s], [] => some [rB (okLamp a b c s t)]
    | _, _, _ => none
  | _ => none
theorem ok_spec_ValidLamp : SpecOK Try.prog 36 S_spec_ValidLamp :=
  auto_ok (Γ := [(80, S_spec_l04Ok)]) mixed 12 (ctx_cons ok_spec_l04Ok ctx_nil) ⟨Try.func36, by kernel_rfl, by kernel_rfl⟩ (by
    intro args r h
    unfold S_spec_ValidLamp at h
    split at h
    · obtain ⟨l0, b0, i0, e0, g0⟩ := withM_spec h; clear h; subst e0
      split at g0
      · cases g0; kernel_rfl
      · cases g0
    · cases h)

noncomputable def S_laws_toLamp : Spec := fun args => match args with
  | [.v (.agg xs0)] => withM [.f, .f, .f, .b, .f] xs0 fun l0 b0 i0 => match l0, b0, i0 with
    | [a, b, c, t], [s], [] => some [.agg [.c (.f .f32 a), .c (.f .f32 b), .c (.f .f32 c), .c (.b s), .c (.f .f32 t)]]
    | _, _, _ => none
  | _ => none
theorem ok_laws_toLamp : SpecOK Try.prog 37 S_laws_toLamp :=
  auto_ok (Γ := [(16, S_laws_toPoint)]) mixed 12 (ctx_cons ok_laws_toPoint ctx_nil) ⟨Try.func37, by kernel_rfl, by kernel_rfl⟩ (by
    intro args r h
    unfold S_laws_toLamp at h
    split at h
    · obtain ⟨l0, b0, i0, e0, g0⟩ := withM_spec h; clear h; subst e0
      split at g0
      · cases g0; kernel_rfl
      · cases g0
    · cases h)

noncomputable def S_impl_root : Spec := fun args => match args with
  | [.v (.s (.c (.f .f32 a)))] => some [rF (root a)]
  | _ => none
theorem ok_impl_root : SpecOK Try.prog 108 S_impl_root :=
  auto_ok (Γ := [(122, S_math_Sqrt)]) mixed 12 (ctx_cons ok_math_Sqrt ctx_nil) ⟨Try.func108, by kernel_rfl, by kernel_rfl⟩ (by
    intro args r h
    unfold S_impl_root at h
    split at h
    · cases h; kernel_rfl
    · cases h)

noncomputable def S_impl_DotOf : Spec := fun args => match args with
  | [.v (.agg xs0), .v (.agg xs1)] => withFs xs0 fun l0 => withFs xs1 fun l1 => match l0, l1 with
    | [a, b, c], [x, y, z] => some [rF (dot a b c x y z)]
    | _, _ => none
  | _ => none
theorem ok_impl_DotOf : SpecOK Try.prog 109 S_impl_DotOf :=
  auto_ok (Γ := []) mixed 12 ctx_nil ⟨Try.func109, by kernel_rfl, by kernel_rfl⟩ (by
    intro args r h
    unfold S_impl_DotOf at h
    split at h
    · obtain ⟨l0, e0, g0⟩ := withFs_spec h; clear h; subst e0
      obtain ⟨l1, e1, g1⟩ := withFs_spec g0; clear g0; subst e1
      split at g1
      · cases g1; kernel_rfl
      · cases g1
    · cases h)

noncomputable def S_impl_LengthOf : Spec := fun args => match args with
  | [.v (.agg xs0)] => withFs xs0 fun l0 => match l0 with
    | [a, b, c] => some [rF (len a b c)]
    | _ => none
  | _ => none
theorem ok_impl_LengthOf : SpecOK Try.prog 82 S_impl_LengthOf :=
  auto_ok (Γ := [(108, S_impl_root), (109, S_impl_DotOf)]) mixed 12 (ctx_cons ok_impl_root (ctx_cons ok_impl_DotOf ctx_nil)) ⟨Try.func82, by kernel_rfl, by kernel_rfl⟩ (by
    intro args r h
    unfold S_impl_LengthOf at h
    split at h
    · obtain ⟨l0, e0, g0⟩ := withFs_spec h; clear h; subst e0
      split at g0
      · cases g0; kernel_rfl
      · cases g0
    · cases h)

noncomputable def S_impl_ValidLamp : Spec := fun args => match args with
  | [.v (.agg xs0)] => withM [.f, .f, .f, .b, .f] xs0 fun l0 b0 i0 => match l0, b0, i0 with
    | [a, b, c, t], [s], [] => some [rB (okLamp a b c s t)]
    | _, _, _ => none
  | _ => none
theorem ok_impl_ValidLamp : SpecOK Try.prog 38 S_impl_ValidLamp :=
  auto_ok (Γ := [(81, S_impl_ValidPoint), (82, S_impl_LengthOf)]) mixed 12 (ctx_cons ok_impl_ValidPoint (ctx_cons ok_impl_LengthOf ctx_nil)) ⟨Try.func38, by kernel_rfl, by kernel_rfl⟩ (by
    intro args r h
    unfold S_impl_ValidLamp at h
    split at h
    · obtain ⟨l0, b0, i0, e0, g0⟩ := withM_spec h; clear h; subst e0
      split at g0
      · cases g0; kernel_rfl
      · cases g0
    · cases h)

noncomputable def S_laws_FnExactValidLamp : Spec := fun args => match args with
  | [.v (.agg xs0)] => withM [.f, .f, .f, .b, .f] xs0 fun l0 b0 i0 => match l0, b0, i0 with
    | [a, b, c, t], [s], [] => some [rB (bif (!(((okLamp a b c s t) : Bool) == (okLamp a b c s t))) then false else true)]
    | _, _, _ => none
  | _ => none
theorem ok_laws_FnExactValidLamp : SpecOK Try.prog 9 S_laws_FnExactValidLamp :=
  auto_ok (Γ := [(36, S_spec_ValidLamp), (37, S_laws_toLamp), (38, S_impl_ValidLamp)]) mixed 12 (ctx_cons ok_spec_ValidLamp (ctx_cons ok_laws_toLamp (ctx_cons ok_impl_ValidLamp ctx_nil))) ⟨Try.func9, by kernel_rfl, by kernel_rfl⟩ (by
    intro args r h
    unfold S_laws_FnExactValidLamp at h
    split at h
    · obtain ⟨l0, b0, i0, e0, g0⟩ := withM_spec h; clear h; subst e0
      split at g0
      · cases g0; kernel_rfl
      · cases g0
    · cases h)

end Go.Proofs.Ytlklakllkicblaa
