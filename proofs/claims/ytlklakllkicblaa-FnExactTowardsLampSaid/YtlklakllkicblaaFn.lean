/- Contracts of the functions that the laws of this seat reach. -/
import Derived.Test.YtlklakllkicblaaMod
import Derived.Test.YtlklakllkicblaaChecked
namespace Go.Proofs.Ytlklakllkicblaa
open Go Go.RowKit
set_option maxRecDepth 20000
set_option linter.all false
theorem mixed : Try.prog.follows .mixedOrders = true := by kernel_rfl
noncomputable def S_laws_toSpot : Spec := fun args => match args with
  | [.v (.agg xs0)] => withFs xs0 fun l0 => match l0 with
    | [x, y] => some [rA [x, y]]
    | _ => none
  | _ => none
theorem ok_laws_toSpot : SpecOK Try.prog 20 S_laws_toSpot :=
  auto_ok (Γ := []) mixed 12 ctx_nil ⟨Try.func20, by kernel_rfl, by kernel_rfl⟩ (by
    intro args r h
    unfold S_laws_toSpot at h
    split at h
    · obtain ⟨l0, e0, g0⟩ := withFs_spec h; clear h; subst e0
      split at g0
      · cases g0; kernel_rfl
      · cases g0
    · cases h)

noncomputable def S_spec_l01Small : Spec := fun args => match args with
  | [.v (.s (.c (.f .f32 a)))] => some [rB (small a)]
  | _ => none
theorem ok_spec_l01Small : SpecOK Try.prog 52 S_spec_l01Small :=
  auto_ok (Γ := []) mixed 12 ctx_nil ⟨Try.func52, by kernel_rfl, by kernel_rfl⟩ (by
    intro args r h
    unfold S_spec_l01Small at h
    split at h
    · cases h; kernel_rfl
    · cases h)

noncomputable def S_spec_l01Finite : Spec := fun args => match args with
  | [.v (.s (.c (.f .f32 a)))] => some [rB (isFin a)]
  | _ => none
theorem ok_spec_l01Finite : SpecOK Try.prog 53 S_spec_l01Finite :=
  auto_ok (Γ := []) mixed 12 ctx_nil ⟨Try.func53, by kernel_rfl, by kernel_rfl⟩ (by
    intro args r h
    unfold S_spec_l01Finite at h
    split at h
    · cases h; kernel_rfl
    · cases h)

noncomputable def S_spec_l01Plain : Spec := fun args => match args with
  | [.v (.s (.c (.f .f32 a)))] => some [rB (isPlain a)]
  | _ => none
theorem ok_spec_l01Plain : SpecOK Try.prog 65 S_spec_l01Plain :=
  auto_ok (Γ := []) mixed 12 ctx_nil ⟨Try.func65, by kernel_rfl, by kernel_rfl⟩ (by
    intro args r h
    unfold S_spec_l01Plain at h
    split at h
    · cases h; kernel_rfl
    · cases h)

noncomputable def S_spec_l02Spot : Spec := fun args => match args with
  | [.v (.agg xs0)] => withFs xs0 fun l0 => match l0 with
    | [a, b] => some [rB (spotOK a b)]
    | _ => none
  | _ => none
theorem ok_spec_l02Spot : SpecOK Try.prog 58 S_spec_l02Spot :=
  auto_ok (Γ := [(65, S_spec_l01Plain)]) mixed 12 (ctx_cons ok_spec_l01Plain ctx_nil) ⟨Try.func58, by kernel_rfl, by kernel_rfl⟩ (by
    intro args r h
    unfold S_spec_l02Spot at h
    split at h
    · obtain ⟨l0, e0, g0⟩ := withFs_spec h; clear h; subst e0
      split at g0
      · cases g0; kernel_rfl
      · cases g0
    · cases h)

noncomputable def S_spec_l05Size : Spec := fun args => match args with
  | [.v (.s (.c (.f .f32 a)))] => some [rF (nsz a)]
  | _ => none
theorem ok_spec_l05Size : SpecOK Try.prog 101 S_spec_l05Size :=
  auto_ok (Γ := []) mixed 12 ctx_nil ⟨Try.func101, by kernel_rfl, by kernel_rfl⟩ (by
    intro args r h
    unfold S_spec_l05Size at h
    split at h
    · cases h; kernel_rfl
    · cases h)

noncomputable def S_spec_l05Axis : Spec := fun args => match args with
  | [.v (.agg xs0), .v (.agg xs1)] => withFs xs0 fun l0 => withFs xs1 fun l1 => match l0, l1 with
    | [a, b], [x, y] => some [.s (.c (.ix (bif far a b x y then 1 else 0) 2))]
    | _, _ => none
  | _ => none
theorem ok_spec_l05Axis : SpecOK Try.prog 62 S_spec_l05Axis :=
  SpecOK.ix (func_sound (Γ := [(101, S_spec_l05Size)]) (ctx_cons ok_spec_l05Size ctx_nil) mixed 12 ⟨Try.func62, by kernel_rfl, by kernel_rfl⟩) (by
    intro args r h
    unfold S_spec_l05Axis at h
    split at h
    · rename_i xs0 xs1
      obtain ⟨l0, e0, g0⟩ := withFs_spec h; clear h; subst e0
      obtain ⟨l1, e1, g1⟩ := withFs_spec g0; clear g0; subst e1
      split at g1
      · rename_i a b x y; cases g1; exact ⟨far a b x y, 1, 0, 2, rfl, by decide, by decide, (show _ = some [rI (bif (fgt .f32 (nsz (nsub y b)) (nsz (nsub x a))) then 1 else 0)] by kernel_rfl).trans (by rw [← nsz_gt]; rfl)⟩
      · cases g1
    · cases h)

noncomputable def S_spec_CrossRatio : Spec := fun args => match args with
  | [.v (.agg xs0), .v (.agg xs1), .v (.agg xs2), .v (.agg xs3)] => withFs xs0 fun l0 => withFs xs1 fun l1 => withFs xs2 fun l2 => withFs xs3 fun l3 => match l0, l1, l2, l3 with
    | [a, b], [x, y], [p, q], [u, v] => some [rF (sel (bad4 a b x y p q u v) (rat (crossN (far a b u v) a b x y p q u v) (crossD (far a b u v) a b x y p q u v))), rI (cod (bad4 a b x y p q u v) 1 (ratC (crossD (far a b u v) a b x y p q u v) (crossN (far a b u v) a b x y p q u v)))]
    | _, _, _, _ => none
  | _ => none
theorem ok_spec_CrossRatio : SpecOK Try.prog 23 S_spec_CrossRatio :=
  auto_ok (Γ := [(52, S_spec_l01Small), (53, S_spec_l01Finite), (58, S_spec_l02Spot), (62, S_spec_l05Axis)]) mixed 12 (ctx_cons ok_spec_l01Small (ctx_cons ok_spec_l01Finite (ctx_cons ok_spec_l02Spot (ctx_cons ok_spec_l05Axis ctx_nil)))) ⟨Try.func23, by kernel_rfl, by kernel_rfl⟩ (by
    intro args r h
    unfold S_spec_CrossRatio at h
    split at h
    · obtain ⟨l0, e0, g0⟩ := withFs_spec h; clear h; subst e0
      obtain ⟨l1, e1, g1⟩ := withFs_spec g0; clear g0; subst e1
      obtain ⟨l2, e2, g2⟩ := withFs_spec g1; clear g1; subst e2
      obtain ⟨l3, e3, g3⟩ := withFs_spec g2; clear g2; subst e3
      split at g3
      · cases g3; kernel_rfl
      · cases g3
    · cases h)

noncomputable def S_impl_IsPlain : Spec := fun args => match args with
  | [.v (.s (.c (.f .f32 a)))] => some [rB (isPlain a)]
  | _ => none
theorem ok_impl_IsPlain : SpecOK Try.prog 66 S_impl_IsPlain :=
  auto_ok (Γ := []) mixed 12 ctx_nil ⟨Try.func66, by kernel_rfl, by kernel_rfl⟩ (by
    intro args r h
    unfold S_impl_IsPlain at h
    split at h
    · cases h; kernel_rfl
    · cases h)

noncomputable def S_impl_arePlain_1 : Spec := fun args => match args with
  | [.v (.s (.c (.f .f32 a)))] => some [rB (!isPlain a)]
  | _ => none
theorem ok_impl_arePlain_1 : SpecOK Try.prog 111 S_impl_arePlain_1 :=
  auto_ok (Γ := [(66, S_impl_IsPlain)]) mixed 12 (ctx_cons ok_impl_IsPlain ctx_nil) ⟨Try.func111, by kernel_rfl, by kernel_rfl⟩ (by
    intro args r h
    unfold S_impl_arePlain_1 at h
    split at h
    · cases h; kernel_rfl
    · cases h)

noncomputable def S_impl_isFinite : Spec := fun args => match args with
  | [.v (.s (.c (.f .f32 a)))] => some [rB (isFin a)]
  | _ => none
theorem ok_impl_isFinite : SpecOK Try.prog 105 S_impl_isFinite :=
  auto_ok (Γ := []) mixed 12 ctx_nil ⟨Try.func105, by kernel_rfl, by kernel_rfl⟩ (by
    intro args r h
    unfold S_impl_isFinite at h
    split at h
    · cases h; kernel_rfl
    · cases h)

noncomputable def S_impl_areFinite_1 : Spec := fun args => match args with
  | [.v (.s (.c (.f .f32 a)))] => some [rB (!isFin a)]
  | _ => none
theorem ok_impl_areFinite_1 : SpecOK Try.prog 117 S_impl_areFinite_1 :=
  auto_ok (Γ := [(105, S_impl_isFinite)]) mixed 12 (ctx_cons ok_impl_isFinite ctx_nil) ⟨Try.func117, by kernel_rfl, by kernel_rfl⟩ (by
    intro args r h
    unfold S_impl_areFinite_1 at h
    split at h
    · cases h; kernel_rfl
    · cases h)

noncomputable def S_slices_IndexFunc_float32_float32 : Spec := funcSpec Try.prog [(111, S_impl_arePlain_1), (117, S_impl_areFinite_1)] 14 Try.f123
theorem ok_slices_IndexFunc_float32_float32 : SpecOK Try.prog 123 S_slices_IndexFunc_float32_float32 := func_sound (ctx_cons ok_impl_arePlain_1 (ctx_cons ok_impl_areFinite_1 ctx_nil)) mixed 14 ⟨Try.func123, by kernel_rfl, by kernel_rfl⟩

noncomputable def S_slices_ContainsFunc_float32_float32 : Spec := funcSpec Try.prog [(123, S_slices_IndexFunc_float32_float32), (111, S_impl_arePlain_1), (117, S_impl_areFinite_1)] 14 Try.f110
theorem ok_slices_ContainsFunc_float32_float32 : SpecOK Try.prog 110 S_slices_ContainsFunc_float32_float32 := func_sound (ctx_cons ok_slices_IndexFunc_float32_float32 (ctx_cons ok_impl_arePlain_1 (ctx_cons ok_impl_areFinite_1 ctx_nil))) mixed 14 ⟨Try.func110, by kernel_rfl, by kernel_rfl⟩

noncomputable def S_impl_arePlain : Spec := fun args => match args with
  | [.sl xs n] => withFs xs fun l => match n, l with
    | 1, [x0] => some [rB (allF isPlain [x0])]
    | 2, [x0, x1] => some [rB (allF isPlain [x0, x1])]
    | 3, [x0, x1, x2] => some [rB (allF isPlain [x0, x1, x2])]
    | 4, [x0, x1, x2, x3] => some [rB (allF isPlain [x0, x1, x2, x3])]
    | 5, [x0, x1, x2, x3, x4] => some [rB (allF isPlain [x0, x1, x2, x3, x4])]
    | 9, [x0, x1, x2, x3, x4, x5, x6, x7, x8] => some [rB (allF isPlain [x0, x1, x2, x3, x4, x5, x6, x7, x8])]
    | _, _ => none
  | _ => none
theorem ok_impl_arePlain : SpecOK Try.prog 85 S_impl_arePlain :=
  auto_ok (Γ := [(110, S_slices_ContainsFunc_float32_float32), (111, S_impl_arePlain_1)]) mixed 14 (ctx_cons ok_slices_ContainsFunc_float32_float32 (ctx_cons ok_impl_arePlain_1 ctx_nil)) ⟨Try.func85, by kernel_rfl, by kernel_rfl⟩ (by
    intro args r h
    unfold S_impl_arePlain at h
    split at h
    · obtain ⟨l0, e0, g0⟩ := withFs_spec h; clear h; subst e0
      split at g0
      · rename_i x0; cases g0
        have e : funcSpec Try.prog [(110, S_slices_ContainsFunc_float32_float32), (111, S_impl_arePlain_1)] 14 Try.f85 [.sl (fsL [x0]) 1] = some [rB (!decide (idxB 0 [!isPlain x0] ≥ 0))] := by kernel_rfl
        rw [e, not_idxB]; rfl
      · rename_i x0 x1; cases g0
        have e : funcSpec Try.prog [(110, S_slices_ContainsFunc_float32_float32), (111, S_impl_arePlain_1)] 14 Try.f85 [.sl (fsL [x0, x1]) 2] = some [rB (!decide (idxB 0 [!isPlain x0, !isPlain x1] ≥ 0))] := by kernel_rfl
        rw [e, not_idxB]; rfl
      · rename_i x0 x1 x2; cases g0
        have e : funcSpec Try.prog [(110, S_slices_ContainsFunc_float32_float32), (111, S_impl_arePlain_1)] 14 Try.f85 [.sl (fsL [x0, x1, x2]) 3] = some [rB (!decide (idxB 0 [!isPlain x0, !isPlain x1, !isPlain x2] ≥ 0))] := by kernel_rfl
        rw [e, not_idxB]; rfl
      · rename_i x0 x1 x2 x3; cases g0
        have e : funcSpec Try.prog [(110, S_slices_ContainsFunc_float32_float32), (111, S_impl_arePlain_1)] 14 Try.f85 [.sl (fsL [x0, x1, x2, x3]) 4] = some [rB (!decide (idxB 0 [!isPlain x0, !isPlain x1, !isPlain x2, !isPlain x3] ≥ 0))] := by kernel_rfl
        rw [e, not_idxB]; rfl
      · rename_i x0 x1 x2 x3 x4; cases g0
        have e : funcSpec Try.prog [(110, S_slices_ContainsFunc_float32_float32), (111, S_impl_arePlain_1)] 14 Try.f85 [.sl (fsL [x0, x1, x2, x3, x4]) 5] = some [rB (!decide (idxB 0 [!isPlain x0, !isPlain x1, !isPlain x2, !isPlain x3, !isPlain x4] ≥ 0))] := by kernel_rfl
        rw [e, not_idxB]; rfl
      · rename_i x0 x1 x2 x3 x4 x5 x6 x7 x8; cases g0
        have e : funcSpec Try.prog [(110, S_slices_ContainsFunc_float32_float32), (111, S_impl_arePlain_1)] 14 Try.f85 [.sl (fsL [x0, x1, x2, x3, x4, x5, x6, x7, x8]) 9] = some [rB (!decide (idxB 0 [!isPlain x0, !isPlain x1, !isPlain x2, !isPlain x3, !isPlain x4, !isPlain x5, !isPlain x6, !isPlain x7, !isPlain x8] ≥ 0))] := by kernel_rfl
        rw [e, not_idxB]; rfl
      · cases g0
    · cases h)

noncomputable def S_impl_areSpots_1 : Spec := fun args => match args with
  | [.v (.agg xs0)] => withFs xs0 fun l0 => match l0 with
    | [a, b] => some [rB (!spotF a b)]
    | _ => none
  | _ => none
theorem ok_impl_areSpots_1 : SpecOK Try.prog 100 S_impl_areSpots_1 :=
  auto_ok (Γ := [(85, S_impl_arePlain)]) mixed 12 (ctx_cons ok_impl_arePlain ctx_nil) ⟨Try.func100, by kernel_rfl, by kernel_rfl⟩ (by
    intro args r h
    unfold S_impl_areSpots_1 at h
    split at h
    · obtain ⟨l0, e0, g0⟩ := withFs_spec h; clear h; subst e0
      split at g0
      · cases g0; kernel_rfl
      · cases g0
    · cases h)

noncomputable def S_slices_IndexFunc_impl_Spot_impl_Spot : Spec := funcSpec Try.prog [(100, S_impl_areSpots_1)] 14 Try.f118
theorem ok_slices_IndexFunc_impl_Spot_impl_Spot : SpecOK Try.prog 118 S_slices_IndexFunc_impl_Spot_impl_Spot := func_sound (ctx_cons ok_impl_areSpots_1 ctx_nil) mixed 14 ⟨Try.func118, by kernel_rfl, by kernel_rfl⟩

noncomputable def S_slices_ContainsFunc_impl_Spot_impl_Spot : Spec := funcSpec Try.prog [(118, S_slices_IndexFunc_impl_Spot_impl_Spot), (100, S_impl_areSpots_1)] 14 Try.f99
theorem ok_slices_ContainsFunc_impl_Spot_impl_Spot : SpecOK Try.prog 99 S_slices_ContainsFunc_impl_Spot_impl_Spot := func_sound (ctx_cons ok_slices_IndexFunc_impl_Spot_impl_Spot (ctx_cons ok_impl_areSpots_1 ctx_nil)) mixed 14 ⟨Try.func99, by kernel_rfl, by kernel_rfl⟩

noncomputable def S_impl_areSpots : Spec := fun args => match args with
  | [.sl xs n] => withFs xs fun l => match n, l with
    | 1, [x0, x1] => some [rB (allSps [x0, x1])]
    | 2, [x0, x1, x2, x3] => some [rB (allSps [x0, x1, x2, x3])]
    | 3, [x0, x1, x2, x3, x4, x5] => some [rB (allSps [x0, x1, x2, x3, x4, x5])]
    | 4, [x0, x1, x2, x3, x4, x5, x6, x7] => some [rB (allSps [x0, x1, x2, x3, x4, x5, x6, x7])]
    | _, _ => none
  | _ => none
theorem ok_impl_areSpots : SpecOK Try.prog 60 S_impl_areSpots :=
  auto_ok (Γ := [(99, S_slices_ContainsFunc_impl_Spot_impl_Spot), (100, S_impl_areSpots_1)]) mixed 14 (ctx_cons ok_slices_ContainsFunc_impl_Spot_impl_Spot (ctx_cons ok_impl_areSpots_1 ctx_nil)) ⟨Try.func60, by kernel_rfl, by kernel_rfl⟩ (by
    intro args r h
    unfold S_impl_areSpots at h
    split at h
    · obtain ⟨l0, e0, g0⟩ := withFs_spec h; clear h; subst e0
      split at g0
      · rename_i x0 x1; cases g0
        have e : funcSpec Try.prog [(99, S_slices_ContainsFunc_impl_Spot_impl_Spot), (100, S_impl_areSpots_1)] 14 Try.f60 [.sl (fsL [x0, x1]) 1] = some [rB (!decide (idxB 0 [!spotF x0 x1] ≥ 0))] := by kernel_rfl
        rw [e, not_idxB]; rfl
      · rename_i x0 x1 x2 x3; cases g0
        have e : funcSpec Try.prog [(99, S_slices_ContainsFunc_impl_Spot_impl_Spot), (100, S_impl_areSpots_1)] 14 Try.f60 [.sl (fsL [x0, x1, x2, x3]) 2] = some [rB (!decide (idxB 0 [!spotF x0 x1, !spotF x2 x3] ≥ 0))] := by kernel_rfl
        rw [e, not_idxB]; rfl
      · rename_i x0 x1 x2 x3 x4 x5; cases g0
        have e : funcSpec Try.prog [(99, S_slices_ContainsFunc_impl_Spot_impl_Spot), (100, S_impl_areSpots_1)] 14 Try.f60 [.sl (fsL [x0, x1, x2, x3, x4, x5]) 3] = some [rB (!decide (idxB 0 [!spotF x0 x1, !spotF x2 x3, !spotF x4 x5] ≥ 0))] := by kernel_rfl
        rw [e, not_idxB]; rfl
      · rename_i x0 x1 x2 x3 x4 x5 x6 x7; cases g0
        have e : funcSpec Try.prog [(99, S_slices_ContainsFunc_impl_Spot_impl_Spot), (100, S_impl_areSpots_1)] 14 Try.f60 [.sl (fsL [x0, x1, x2, x3, x4, x5, x6, x7]) 4] = some [rB (!decide (idxB 0 [!spotF x0 x1, !spotF x2 x3, !spotF x4 x5, !spotF x6 x7] ≥ 0))] := by kernel_rfl
        rw [e, not_idxB]; rfl
      · cases g0
    · cases h)

abbrev S_math_Float64frombits : Spec := S_from64
theorem ok_math_Float64frombits : SpecOK Try.prog 124 S_math_Float64frombits := ok_from64 (fn := Try.f124) ⟨Try.func124, by kernel_rfl, by kernel_rfl, by kernel_rfl, by kernel_rfl⟩

abbrev S_math_Float64bits : Spec := S_bits64
theorem ok_math_Float64bits : SpecOK Try.prog 125 S_math_Float64bits := ok_bits64 (fn := Try.f125) ⟨Try.func125, by kernel_rfl, by kernel_rfl, by kernel_rfl, by kernel_rfl⟩

abbrev S_math_Abs : Spec := S_abs
theorem ok_math_Abs : SpecOK Try.prog 116 S_math_Abs := ok_abs_of (func_sound (Γ := [(125, S_math_Float64bits), (124, S_math_Float64frombits)]) (ctx_cons ok_math_Float64bits (ctx_cons ok_math_Float64frombits ctx_nil)) mixed 12 ⟨Try.func116, by kernel_rfl, by kernel_rfl⟩) (fun b => by kernel_rfl)
noncomputable def S_impl_size : Spec := fun args => match args with
  | [.v (.s (.c (.f .f32 a)))] => some [rF (nabs a)]
  | _ => none
theorem ok_impl_size : SpecOK Try.prog 96 S_impl_size :=
  auto_ok (Γ := [(116, S_math_Abs)]) mixed 12 (ctx_cons ok_math_Abs ctx_nil) ⟨Try.func96, by kernel_rfl, by kernel_rfl⟩ (by
    intro args r h
    unfold S_impl_size at h
    split at h
    · cases h; kernel_rfl
    · cases h)

noncomputable def S_impl_farther : Spec := fun args => match args with
  | [.v (.agg xs0), .v (.agg xs1)] => withFs xs0 fun l0 => withFs xs1 fun l1 => match l0, l1 with
    | [a, b], [x, y] => some [.s (.c (.ix (bif far a b x y then 1 else 0) 2))]
    | _, _ => none
  | _ => none
theorem ok_impl_farther : SpecOK Try.prog 63 S_impl_farther :=
  SpecOK.ix (func_sound (Γ := [(96, S_impl_size)]) (ctx_cons ok_impl_size ctx_nil) mixed 12 ⟨Try.func63, by kernel_rfl, by kernel_rfl⟩) (by
    intro args r h
    unfold S_impl_farther at h
    split at h
    · rename_i xs0 xs1
      obtain ⟨l0, e0, g0⟩ := withFs_spec h; clear h; subst e0
      obtain ⟨l1, e1, g1⟩ := withFs_spec g0; clear g0; subst e1
      split at g1
      · rename_i a b x y; cases g1; exact ⟨far a b x y, 1, 0, 2, rfl, by decide, by decide, by kernel_rfl⟩
      · cases g1
    · cases h)

noncomputable def S_impl_isSmall : Spec := fun args => match args with
  | [.v (.s (.c (.f .f32 a)))] => some [rB (small a)]
  | _ => none
theorem ok_impl_isSmall : SpecOK Try.prog 56 S_impl_isSmall :=
  auto_ok (Γ := [(96, S_impl_size)]) mixed 12 (ctx_cons ok_impl_size ctx_nil) ⟨Try.func56, by kernel_rfl, by kernel_rfl⟩ (by
    intro args r h
    unfold S_impl_isSmall at h
    split at h
    · rename_i a; cases h; exact (show _ = some [rB (!fge .f32 (nabs a) 897581056)] by kernel_rfl).trans (congrArg (fun b => some [rB b]) (small_eq a))
    · cases h)

noncomputable def S_impl_number : Spec := fun args => match args with
  | [.v (.s (.c (.f .f32 a)))] => some [rF (sel (!isFin a) a), rI (cod (!isFin a) 4 0)]
  | _ => none
theorem ok_impl_number : SpecOK Try.prog 72 S_impl_number :=
  auto_ok (Γ := [(105, S_impl_isFinite)]) mixed 12 (ctx_cons ok_impl_isFinite ctx_nil) ⟨Try.func72, by kernel_rfl, by kernel_rfl⟩ (by
    intro args r h
    unfold S_impl_number at h
    split at h
    · cases h; kernel_rfl
    · cases h)

noncomputable def S_impl_ratio : Spec := fun args => match args with
  | [.v (.s (.c (.f .f32 a))), .v (.s (.c (.f .f32 b)))] => some [rF (rat a b), rI (ratC b a)]
  | _ => none
theorem ok_impl_ratio : SpecOK Try.prog 64 S_impl_ratio :=
  auto_ok (Γ := [(56, S_impl_isSmall), (72, S_impl_number)]) mixed 12 (ctx_cons ok_impl_isSmall (ctx_cons ok_impl_number ctx_nil)) ⟨Try.func64, by kernel_rfl, by kernel_rfl⟩ (by
    intro args r h
    unfold S_impl_ratio at h
    split at h
    · cases h; kernel_rfl
    · cases h)

noncomputable def S_impl_CrossRatio : Spec := fun args => match args with
  | [.v (.agg xs0), .v (.agg xs1), .v (.agg xs2), .v (.agg xs3)] => withFs xs0 fun l0 => withFs xs1 fun l1 => withFs xs2 fun l2 => withFs xs3 fun l3 => match l0, l1, l2, l3 with
    | [a, b], [x, y], [p, q], [u, v] => some [rF (sel (bad4 a b x y p q u v) (rat (crossN (far a b u v) a b x y p q u v) (crossD (far a b u v) a b x y p q u v))), rI (cod (bad4 a b x y p q u v) 1 (ratC (crossD (far a b u v) a b x y p q u v) (crossN (far a b u v) a b x y p q u v)))]
    | _, _, _, _ => none
  | _ => none
theorem ok_impl_CrossRatio : SpecOK Try.prog 24 S_impl_CrossRatio :=
  auto_ok (Γ := [(60, S_impl_areSpots), (63, S_impl_farther), (64, S_impl_ratio)]) mixed 12 (ctx_cons ok_impl_areSpots (ctx_cons ok_impl_farther (ctx_cons ok_impl_ratio ctx_nil))) ⟨Try.func24, by kernel_rfl, by kernel_rfl⟩ (by
    intro args r h
    unfold S_impl_CrossRatio at h
    split at h
    · rename_i xs0 xs1 xs2 xs3
      obtain ⟨l0, e0, g0⟩ := withFs_spec h; clear h; subst e0
      obtain ⟨l1, e1, g1⟩ := withFs_spec g0; clear g0; subst e1
      obtain ⟨l2, e2, g2⟩ := withFs_spec g1; clear g1; subst e2
      obtain ⟨l3, e3, g3⟩ := withFs_spec g2; clear g2; subst e3
      split at g3
      · rename_i a b x y p q u v; cases g3; exact (show _ = some [rF (sel (!allSps [a, b, x, y, p, q, u, v]) (rat (crossN (far a b u v) a b x y p q u v) (crossD (far a b u v) a b x y p q u v))), rI (cod (!allSps [a, b, x, y, p, q, u, v]) 1 (ratC (crossD (far a b u v) a b x y p q u v) (crossN (far a b u v) a b x y p q u v)))] by kernel_rfl).trans (by rw [bad4_eq])
      · cases g3
    · cases h)

noncomputable def S_laws_sameFloat : Spec := fun args => match args with
  | [.v (.s (.c (.g a))), .v (.s (.c (.g b)))] => some [rB (sameD a b)]
  | _ => none
theorem ok_laws_sameFloat : SpecOK Try.prog 25 S_laws_sameFloat :=
  auto_ok (Γ := []) mixed 12 ctx_nil ⟨Try.func25, by kernel_rfl, by kernel_rfl⟩ (by
    intro args r h
    unfold S_laws_sameFloat at h
    split at h
    · cases h; kernel_rfl
    · cases h)

noncomputable def S_laws_FnExactCrossRatio : Spec := fun args => match args with
  | [.v (.agg xs0), .v (.agg xs1), .v (.agg xs2), .v (.agg xs3)] => withFs xs0 fun l0 => withFs xs1 fun l1 => withFs xs2 fun l2 => withFs xs3 fun l3 => match l0, l1, l2, l3 with
    | [a, b], [x, y], [p, q], [u, v] => some [rB (bif (bif (!sameD (fwide ((sel (bad4 a b x y p q u v) (rat (crossN (far a b u v) a b x y p q u v) (crossD (far a b u v) a b x y p q u v))))) (fwide ((sel (bad4 a b x y p q u v) (rat (crossN (far a b u v) a b x y p q u v) (crossD (far a b u v) a b x y p q u v)))))) then true else ((((cod (bad4 a b x y p q u v) 1 (ratC (crossD (far a b u v) a b x y p q u v) (crossN (far a b u v) a b x y p q u v)))) : Int) != ((cod (bad4 a b x y p q u v) 1 (ratC (crossD (far a b u v) a b x y p q u v) (crossN (far a b u v) a b x y p q u v)))))) then false else true)]
    | _, _, _, _ => none
  | _ => none
theorem ok_laws_FnExactCrossRatio : SpecOK Try.prog 5 S_laws_FnExactCrossRatio :=
  auto_ok (Γ := [(20, S_laws_toSpot), (23, S_spec_CrossRatio), (24, S_impl_CrossRatio), (25, S_laws_sameFloat)]) mixed 12 (ctx_cons ok_laws_toSpot (ctx_cons ok_spec_CrossRatio (ctx_cons ok_impl_CrossRatio (ctx_cons ok_laws_sameFloat ctx_nil)))) ⟨Try.func5, by kernel_rfl, by kernel_rfl⟩ (by
    intro args r h
    unfold S_laws_FnExactCrossRatio at h
    split at h
    · obtain ⟨l0, e0, g0⟩ := withFs_spec h; clear h; subst e0
      obtain ⟨l1, e1, g1⟩ := withFs_spec g0; clear g0; subst e1
      obtain ⟨l2, e2, g2⟩ := withFs_spec g1; clear g1; subst e2
      obtain ⟨l3, e3, g3⟩ := withFs_spec g2; clear g2; subst e3
      split at g3
      · cases g3; kernel_rfl
      · cases g3
    · cases h)

noncomputable def S_spec_MeasureFrom : Spec := fun args => match args with
  | [.v (.agg xs0), .v (.agg xs1), .v (.agg xs2), .v (.agg xs3), .v (.s (.c (.f .f32 k)))] => withFs xs0 fun l0 => withFs xs1 fun l1 => withFs xs2 fun l2 => withFs xs3 fun l3 => match l0, l1, l2, l3 with
    | [a, b], [x, y], [p, q], [u, v] => some [rF (sel (badK a b x y p q u v k) (rat (measN (far a b p q) a b x y p q u v k) (measD (far a b p q) a b x y p q u v))), rI (cod (badK a b x y p q u v k) 1 (ratC (measD (far a b p q) a b x y p q u v) (measN (far a b p q) a b x y p q u v k)))]
    | _, _, _, _ => none
  | _ => none
theorem ok_spec_MeasureFrom : SpecOK Try.prog 26 S_spec_MeasureFrom :=
  auto_ok (Γ := [(52, S_spec_l01Small), (53, S_spec_l01Finite), (58, S_spec_l02Spot), (62, S_spec_l05Axis), (65, S_spec_l01Plain)]) mixed 12 (ctx_cons ok_spec_l01Small (ctx_cons ok_spec_l01Finite (ctx_cons ok_spec_l02Spot (ctx_cons ok_spec_l05Axis (ctx_cons ok_spec_l01Plain ctx_nil))))) ⟨Try.func26, by kernel_rfl, by kernel_rfl⟩ (by
    intro args r h
    unfold S_spec_MeasureFrom at h
    split at h
    · obtain ⟨l0, e0, g0⟩ := withFs_spec h; clear h; subst e0
      obtain ⟨l1, e1, g1⟩ := withFs_spec g0; clear g0; subst e1
      obtain ⟨l2, e2, g2⟩ := withFs_spec g1; clear g1; subst e2
      obtain ⟨l3, e3, g3⟩ := withFs_spec g2; clear g2; subst e3
      split at g3
      · cases g3; kernel_rfl
      · cases g3
    · cases h)

noncomputable def S_impl_MeasureFrom : Spec := fun args => match args with
  | [.v (.agg xs0), .v (.agg xs1), .v (.agg xs2), .v (.agg xs3), .v (.s (.c (.f .f32 k)))] => withFs xs0 fun l0 => withFs xs1 fun l1 => withFs xs2 fun l2 => withFs xs3 fun l3 => match l0, l1, l2, l3 with
    | [a, b], [x, y], [p, q], [u, v] => some [rF (sel (badK a b x y p q u v k) (rat (measN (far a b p q) a b x y p q u v k) (measD (far a b p q) a b x y p q u v))), rI (cod (badK a b x y p q u v k) 1 (ratC (measD (far a b p q) a b x y p q u v) (measN (far a b p q) a b x y p q u v k)))]
    | _, _, _, _ => none
  | _ => none
theorem ok_impl_MeasureFrom : SpecOK Try.prog 27 S_impl_MeasureFrom :=
  auto_ok (Γ := [(60, S_impl_areSpots), (63, S_impl_farther), (64, S_impl_ratio), (66, S_impl_IsPlain)]) mixed 12 (ctx_cons ok_impl_areSpots (ctx_cons ok_impl_farther (ctx_cons ok_impl_ratio (ctx_cons ok_impl_IsPlain ctx_nil)))) ⟨Try.func27, by kernel_rfl, by kernel_rfl⟩ (by
    intro args r h
    unfold S_impl_MeasureFrom at h
    split at h
    · rename_i xs0 xs1 xs2 xs3 k
      obtain ⟨l0, e0, g0⟩ := withFs_spec h; clear h; subst e0
      obtain ⟨l1, e1, g1⟩ := withFs_spec g0; clear g0; subst e1
      obtain ⟨l2, e2, g2⟩ := withFs_spec g1; clear g1; subst e2
      obtain ⟨l3, e3, g3⟩ := withFs_spec g2; clear g2; subst e3
      split at g3
      · rename_i a b x y p q u v; cases g3; exact (show _ = some [rF (sel (bif !allSps [a, b, x, y, p, q, u, v] then true else !isPlain k) (rat (measN (far a b p q) a b x y p q u v k) (measD (far a b p q) a b x y p q u v))), rI (cod (bif !allSps [a, b, x, y, p, q, u, v] then true else !isPlain k) 1 (ratC (measD (far a b p q) a b x y p q u v) (measN (far a b p q) a b x y p q u v k)))] by kernel_rfl).trans (by rw [bad4_eq]; rfl)
      · cases g3
    · cases h)

noncomputable def S_laws_FnExactMeasureFrom : Spec := fun args => match args with
  | [.v (.agg xs0), .v (.agg xs1), .v (.agg xs2), .v (.agg xs3), .v (.s (.c (.f .f32 k)))] => withFs xs0 fun l0 => withFs xs1 fun l1 => withFs xs2 fun l2 => withFs xs3 fun l3 => match l0, l1, l2, l3 with
    | [a, b], [x, y], [p, q], [u, v] => some [rB (bif (bif (!sameD (fwide ((sel (badK a b x y p q u v k) (rat (measN (far a b p q) a b x y p q u v k) (measD (far a b p q) a b x y p q u v))))) (fwide ((sel (badK a b x y p q u v k) (rat (measN (far a b p q) a b x y p q u v k) (measD (far a b p q) a b x y p q u v)))))) then true else ((((cod (badK a b x y p q u v k) 1 (ratC (measD (far a b p q) a b x y p q u v) (measN (far a b p q) a b x y p q u v k)))) : Int) != ((cod (badK a b x y p q u v k) 1 (ratC (measD (far a b p q) a b x y p q u v) (measN (far a b p q) a b x y p q u v k)))))) then false else true)]
    | _, _, _, _ => none
  | _ => none
theorem ok_laws_FnExactMeasureFrom : SpecOK Try.prog 6 S_laws_FnExactMeasureFrom :=
  auto_ok (Γ := [(20, S_laws_toSpot), (25, S_laws_sameFloat), (26, S_spec_MeasureFrom), (27, S_impl_MeasureFrom)]) mixed 12 (ctx_cons ok_laws_toSpot (ctx_cons ok_laws_sameFloat (ctx_cons ok_spec_MeasureFrom (ctx_cons ok_impl_MeasureFrom ctx_nil)))) ⟨Try.func6, by kernel_rfl, by kernel_rfl⟩ (by
    intro args r h
    unfold S_laws_FnExactMeasureFrom at h
    split at h
    · obtain ⟨l0, e0, g0⟩ := withFs_spec h; clear h; subst e0
      obtain ⟨l1, e1, g1⟩ := withFs_spec g0; clear g0; subst e1
      obtain ⟨l2, e2, g2⟩ := withFs_spec g1; clear g1; subst e2
      obtain ⟨l3, e3, g3⟩ := withFs_spec g2; clear g2; subst e3
      split at g3
      · cases g3; kernel_rfl
      · cases g3
    · cases h)

noncomputable def S_laws_toMap : Spec := fun args => match args with
  | [.v (.agg xs0)] => withFs xs0 fun l0 => match l0 with
    | [a, b, c, d, e, f, g, h, i] => some [rA [a, b, c, d, e, f, g, h, i]]
    | _ => none
  | _ => none
theorem ok_laws_toMap : SpecOK Try.prog 34 S_laws_toMap :=
  auto_ok (Γ := []) mixed 12 ctx_nil ⟨Try.func34, by kernel_rfl, by kernel_rfl⟩ (by
    intro args r h
    unfold S_laws_toMap at h
    split at h
    · obtain ⟨l0, e0, g0⟩ := withFs_spec h; clear h; subst e0
      split at g0
      · cases g0; kernel_rfl
      · cases g0
    · cases h)

noncomputable def S_spec_l05Plains : Spec := fun args => match args with
  | [.ref xs0] => withFs xs0 fun l0 => match l0 with
    | [a, b, c, d, e, f, g, h, i] => some [rB (allL isPlain [a, b, c, d, e, f, g, h, i])]
    | _ => none
  | _ => none
theorem ok_spec_l05Plains : SpecOK Try.prog 83 S_spec_l05Plains :=
  auto_ok (Γ := [(65, S_spec_l01Plain)]) mixed 12 (ctx_cons ok_spec_l01Plain ctx_nil) ⟨Try.func83, by kernel_rfl, by kernel_rfl⟩ (by
    intro args r h
    unfold S_spec_l05Plains at h
    split at h
    · obtain ⟨l0, e0, g0⟩ := withFs_spec h; clear h; subst e0
      split at g0
      · cases g0; kernel_rfl
      · cases g0
    · cases h)

noncomputable def S_spec_l05Two : Spec := fun args => match args with
  | [.v (.s (.c (.f .f32 a))), .v (.s (.c (.f .f32 d))), .v (.s (.c (.f .f32 b))), .v (.s (.c (.f .f32 c)))] => some [rF (minor a b c d)]
  | _ => none
theorem ok_spec_l05Two : SpecOK Try.prog 51 S_spec_l05Two :=
  auto_ok (Γ := []) mixed 12 ctx_nil ⟨Try.func51, by kernel_rfl, by kernel_rfl⟩ (by
    intro args r h
    unfold S_spec_l05Two at h
    split at h
    · cases h; kernel_rfl
    · cases h)

noncomputable def S_spec_DetOf : Spec := fun args => match args with
  | [.v (.agg xs0)] => withFs xs0 fun l0 => match l0 with
    | [a, b, c, d, e, f, g, h, i] => some [rF (detOf a b c d e f g h i)]
    | _ => none
  | _ => none
theorem ok_spec_DetOf : SpecOK Try.prog 76 S_spec_DetOf :=
  auto_ok (Γ := [(51, S_spec_l05Two)]) mixed 12 (ctx_cons ok_spec_l05Two ctx_nil) ⟨Try.func76, by kernel_rfl, by kernel_rfl⟩ (by
    intro args r h
    unfold S_spec_DetOf at h
    split at h
    · obtain ⟨l0, e0, g0⟩ := withFs_spec h; clear h; subst e0
      split at g0
      · cases g0; kernel_rfl
      · cases g0
    · cases h)

noncomputable def S_spec_l05Ok : Spec := fun args => match args with
  | [.ref xs0] => withFs xs0 fun l0 => match l0 with
    | [a, b, c, d, e, f, g, h, i] => some [rB (validMap a b c d e f g h i)]
    | _ => none
  | _ => none
theorem ok_spec_l05Ok : SpecOK Try.prog 74 S_spec_l05Ok :=
  auto_ok (Γ := [(52, S_spec_l01Small), (76, S_spec_DetOf), (83, S_spec_l05Plains)]) mixed 12 (ctx_cons ok_spec_l01Small (ctx_cons ok_spec_DetOf (ctx_cons ok_spec_l05Plains ctx_nil))) ⟨Try.func74, by kernel_rfl, by kernel_rfl⟩ (by
    intro args r h
    unfold S_spec_l05Ok at h
    split at h
    · obtain ⟨l0, e0, g0⟩ := withFs_spec h; clear h; subst e0
      split at g0
      · cases g0; kernel_rfl
      · cases g0
    · cases h)

noncomputable def S_spec_l05Scaled : Spec := fun args => match args with
  | [.v (.agg xs0)] => withFs xs0 fun l0 => match l0 with
    | [a, b, c, d, e, f, g, h, i] => some [.agg (fsL (scaledOut [a, b, c, d, e, f, g, h, i])), rI (scaledCod [a, b, c, d, e, f, g, h, i])]
    | _ => none
  | _ => none
theorem ok_spec_l05Scaled : SpecOK Try.prog 84 S_spec_l05Scaled :=
  auto_ok (Γ := [(74, S_spec_l05Ok), (83, S_spec_l05Plains), (101, S_spec_l05Size)]) mixed 16 (ctx_cons ok_spec_l05Ok (ctx_cons ok_spec_l05Plains (ctx_cons ok_spec_l05Size ctx_nil))) ⟨Try.func84, by kernel_rfl, by kernel_rfl⟩ (by
    intro args r h
    unfold S_spec_l05Scaled at h
    split at h
    · rename_i xs0
      obtain ⟨l0, e0, g0⟩ := withFs_spec h; clear h; subst e0
      split at g0
      · rename_i a b c d e f g h i; cases g0; exact (show _ = some [.agg (fsL ((quosAt [a, b, c, d, e, f, g, h, i]).map fun q => sel (!allL isPlain [a, b, c, d, e, f, g, h, i]) (sel (!validL (quosAt [a, b, c, d, e, f, g, h, i])) q))), rI (cod (!allL isPlain [a, b, c, d, e, f, g, h, i]) 4 (cod (!validL (quosAt [a, b, c, d, e, f, g, h, i])) 4 0))] by kernel_rfl).trans (by rw [quosAt_eq _ rfl]; rfl)
      · cases g0
    · cases h)

noncomputable def S_spec_ScaledMap : Spec := fun args => match args with
  | [.v (.agg xs0)] => withFs xs0 fun l0 => match l0 with
    | [a, b, c, d, e, f, g, h, i] => some [.agg (fsL (List.map (sel (!allL isPlain [a, b, c, d, e, f, g, h, i])) (scaledOut [a, b, c, d, e, f, g, h, i]))), rI (cod (!allL isPlain [a, b, c, d, e, f, g, h, i]) 1 (scaledCod [a, b, c, d, e, f, g, h, i]))]
    | _ => none
  | _ => none
theorem ok_spec_ScaledMap : SpecOK Try.prog 39 S_spec_ScaledMap :=
  auto_ok (Γ := [(83, S_spec_l05Plains), (84, S_spec_l05Scaled)]) mixed 12 (ctx_cons ok_spec_l05Plains (ctx_cons ok_spec_l05Scaled ctx_nil)) ⟨Try.func39, by kernel_rfl, by kernel_rfl⟩ (by
    intro args r h
    unfold S_spec_ScaledMap at h
    split at h
    · obtain ⟨l0, e0, g0⟩ := withFs_spec h; clear h; subst e0
      split at g0
      · cases g0; kernel_rfl
      · cases g0
    · cases h)

noncomputable def S_impl_minor : Spec := fun args => match args with
  | [.v (.s (.c (.f .f32 a))), .v (.s (.c (.f .f32 b))), .v (.s (.c (.f .f32 c))), .v (.s (.c (.f .f32 d)))] => some [rF (minor a b c d)]
  | _ => none
theorem ok_impl_minor : SpecOK Try.prog 55 S_impl_minor :=
  auto_ok (Γ := []) mixed 12 ctx_nil ⟨Try.func55, by kernel_rfl, by kernel_rfl⟩ (by
    intro args r h
    unfold S_impl_minor at h
    split at h
    · cases h; kernel_rfl
    · cases h)

noncomputable def S_impl_DetOf : Spec := fun args => match args with
  | [.v (.agg xs0)] => withFs xs0 fun l0 => match l0 with
    | [a, b, c, d, e, f, g, h, i] => some [rF (detOf a b c d e f g h i)]
    | _ => none
  | _ => none
theorem ok_impl_DetOf : SpecOK Try.prog 79 S_impl_DetOf :=
  auto_ok (Γ := [(55, S_impl_minor)]) mixed 12 (ctx_cons ok_impl_minor ctx_nil) ⟨Try.func79, by kernel_rfl, by kernel_rfl⟩ (by
    intro args r h
    unfold S_impl_DetOf at h
    split at h
    · obtain ⟨l0, e0, g0⟩ := withFs_spec h; clear h; subst e0
      split at g0
      · cases g0; kernel_rfl
      · cases g0
    · cases h)

noncomputable def S_impl_ValidMap : Spec := fun args => match args with
  | [.v (.agg xs0)] => withFs xs0 fun l0 => match l0 with
    | [a, b, c, d, e, f, g, h, i] => some [rB (validMap a b c d e f g h i)]
    | _ => none
  | _ => none
theorem ok_impl_ValidMap : SpecOK Try.prog 89 S_impl_ValidMap :=
  auto_ok (Γ := [(56, S_impl_isSmall), (79, S_impl_DetOf), (85, S_impl_arePlain)]) mixed 12 (ctx_cons ok_impl_isSmall (ctx_cons ok_impl_DetOf (ctx_cons ok_impl_arePlain ctx_nil))) ⟨Try.func89, by kernel_rfl, by kernel_rfl⟩ (by
    intro args r h
    unfold S_impl_ValidMap at h
    split at h
    · rename_i xs0
      obtain ⟨l0, e0, g0⟩ := withFs_spec h; clear h; subst e0
      split at g0
      · rename_i a b c d e f g h i; cases g0; exact (show _ = some [rB (bif allF isPlain [a, b, c, d, e, f, g, h, i] then !small (detOf a b c d e f g h i) else false)] by kernel_rfl).trans (by rw [validMapF])
      · cases g0
    · cases h)

noncomputable def S_impl_validMap : Spec := fun args => match args with
  | [.v (.agg xs0)] => withFs xs0 fun l0 => match l0 with
    | [a, b, c, d, e, f, g, h, i] => some [.agg (fsL (List.map (sel (!validMap a b c d e f g h i)) [a, b, c, d, e, f, g, h, i])), rI (cod (!validMap a b c d e f g h i) 4 0)]
    | _ => none
  | _ => none
theorem ok_impl_validMap : SpecOK Try.prog 112 S_impl_validMap :=
  auto_ok (Γ := [(89, S_impl_ValidMap)]) mixed 12 (ctx_cons ok_impl_ValidMap ctx_nil) ⟨Try.func112, by kernel_rfl, by kernel_rfl⟩ (by
    intro args r h
    unfold S_impl_validMap at h
    split at h
    · obtain ⟨l0, e0, g0⟩ := withFs_spec h; clear h; subst e0
      split at g0
      · cases g0; kernel_rfl
      · cases g0
    · cases h)

noncomputable def S_impl_scaled : Spec := fun args => match args with
  | [.v (.agg xs0)] => withFs xs0 fun l0 => match l0 with
    | [a, b, c, d, e, f, g, h, i] => some [.agg (fsL (scaledOut [a, b, c, d, e, f, g, h, i])), rI (scaledCod [a, b, c, d, e, f, g, h, i])]
    | _ => none
  | _ => none
theorem ok_impl_scaled : SpecOK Try.prog 86 S_impl_scaled :=
  auto_ok (Γ := [(85, S_impl_arePlain), (96, S_impl_size), (112, S_impl_validMap)]) mixed 16 (ctx_cons ok_impl_arePlain (ctx_cons ok_impl_size (ctx_cons ok_impl_validMap ctx_nil))) ⟨Try.func86, by kernel_rfl, by kernel_rfl⟩ (by
    intro args r h
    unfold S_impl_scaled at h
    split at h
    · rename_i xs0
      obtain ⟨l0, e0, g0⟩ := withFs_spec h; clear h; subst e0
      split at g0
      · rename_i a b c d e f g h i; cases g0; exact (show _ = some [.agg (fsL ((quos [a, b, c, d, e, f, g, h, i]).map fun q => sel (!allF isPlain [a, b, c, d, e, f, g, h, i]) (sel (!validL (quos [a, b, c, d, e, f, g, h, i])) q))), rI (cod (!allF isPlain [a, b, c, d, e, f, g, h, i]) 4 (cod (!validL (quos [a, b, c, d, e, f, g, h, i])) 4 0))] by kernel_rfl).trans (by rw [allF_L]; rfl)
      · cases g0
    · cases h)

noncomputable def S_impl_ScaledMap : Spec := fun args => match args with
  | [.v (.agg xs0)] => withFs xs0 fun l0 => match l0 with
    | [a, b, c, d, e, f, g, h, i] => some [.agg (fsL (List.map (sel (!allL isPlain [a, b, c, d, e, f, g, h, i])) (scaledOut [a, b, c, d, e, f, g, h, i]))), rI (cod (!allL isPlain [a, b, c, d, e, f, g, h, i]) 1 (scaledCod [a, b, c, d, e, f, g, h, i]))]
    | _ => none
  | _ => none
theorem ok_impl_ScaledMap : SpecOK Try.prog 40 S_impl_ScaledMap :=
  auto_ok (Γ := [(85, S_impl_arePlain), (86, S_impl_scaled)]) mixed 12 (ctx_cons ok_impl_arePlain (ctx_cons ok_impl_scaled ctx_nil)) ⟨Try.func40, by kernel_rfl, by kernel_rfl⟩ (by
    intro args r h
    unfold S_impl_ScaledMap at h
    split at h
    · rename_i xs0
      obtain ⟨l0, e0, g0⟩ := withFs_spec h; clear h; subst e0
      split at g0
      · rename_i a b c d e f g h i; cases g0; exact (show _ = some [.agg (fsL (List.map (sel (!allF isPlain [a, b, c, d, e, f, g, h, i])) (scaledOut [a, b, c, d, e, f, g, h, i]))), rI (cod (!allF isPlain [a, b, c, d, e, f, g, h, i]) 1 (scaledCod [a, b, c, d, e, f, g, h, i]))] by kernel_rfl).trans (by rw [allF_L])
      · cases g0
    · cases h)

noncomputable def S_laws_eqMap : Spec := fun args => match args with
  | [.v (.agg xs0), .v (.agg xs1)] => withFs xs0 fun l0 => withFs xs1 fun l1 => match l0, l1 with
    | [a, b, c, d, e, f, g, h, i], [a', b', c', d', e', f', g', h', i'] => some [rB (allC [sameD (fwide a) (fwide a'), sameD (fwide b) (fwide b'), sameD (fwide c) (fwide c'), sameD (fwide d) (fwide d'), sameD (fwide e) (fwide e'), sameD (fwide f) (fwide f'), sameD (fwide g) (fwide g'), sameD (fwide h) (fwide h'), sameD (fwide i) (fwide i')])]
    | _, _ => none
  | _ => none
theorem ok_laws_eqMap : SpecOK Try.prog 41 S_laws_eqMap :=
  auto_ok (Γ := [(25, S_laws_sameFloat)]) mixed 12 (ctx_cons ok_laws_sameFloat ctx_nil) ⟨Try.func41, by kernel_rfl, by kernel_rfl⟩ (by
    intro args r h
    unfold S_laws_eqMap at h
    split at h
    · obtain ⟨l0, e0, g0⟩ := withFs_spec h; clear h; subst e0
      obtain ⟨l1, e1, g1⟩ := withFs_spec g0; clear g0; subst e1
      split at g1
      · cases g1; kernel_rfl
      · cases g1
    · cases h)

noncomputable def S_laws_FnExactScaledMap : Spec := fun args => match args with
  | [.v (.agg xs0)] => withFs xs0 fun l0 => match l0 with
    | [a, b, c, d, e, f, g, h, i] => some [rB (bif (bif (!allC (List.map (fun x => sameD (fwide x) (fwide x)) (List.map (sel (!allL isPlain [a, b, c, d, e, f, g, h, i])) (scaledOut [a, b, c, d, e, f, g, h, i])))) then true else (((cod (!allL isPlain [a, b, c, d, e, f, g, h, i]) 1 (scaledCod [a, b, c, d, e, f, g, h, i])) : Int) != (cod (!allL isPlain [a, b, c, d, e, f, g, h, i]) 1 (scaledCod [a, b, c, d, e, f, g, h, i])))) then false else true)]
    | _ => none
  | _ => none
theorem ok_laws_FnExactScaledMap : SpecOK Try.prog 10 S_laws_FnExactScaledMap :=
  auto_ok (Γ := [(34, S_laws_toMap), (39, S_spec_ScaledMap), (40, S_impl_ScaledMap), (41, S_laws_eqMap)]) mixed 12 (ctx_cons ok_laws_toMap (ctx_cons ok_spec_ScaledMap (ctx_cons ok_impl_ScaledMap (ctx_cons ok_laws_eqMap ctx_nil)))) ⟨Try.func10, by kernel_rfl, by kernel_rfl⟩ (by
    intro args r h
    unfold S_laws_FnExactScaledMap at h
    split at h
    · obtain ⟨l0, e0, g0⟩ := withFs_spec h; clear h; subst e0
      split at g0
      · cases g0; kernel_rfl
      · cases g0
    · cases h)

noncomputable def S_spec_InvertMap : Spec := fun args => match args with
  | [.v (.agg xs0)] => withFs xs0 fun l0 => match l0 with
    | [a, b, c, d, e, f, g, h, i] => some [.agg (fsL (List.map (sel (!validMap a b c d e f g h i)) (scaledOut (adj a b c d e f g h i)))), rI (cod (!validMap a b c d e f g h i) 1 (scaledCod (adj a b c d e f g h i)))]
    | _ => none
  | _ => none
theorem ok_spec_InvertMap : SpecOK Try.prog 44 S_spec_InvertMap :=
  auto_ok (Γ := [(51, S_spec_l05Two), (74, S_spec_l05Ok), (84, S_spec_l05Scaled)]) mixed 12 (ctx_cons ok_spec_l05Two (ctx_cons ok_spec_l05Ok (ctx_cons ok_spec_l05Scaled ctx_nil))) ⟨Try.func44, by kernel_rfl, by kernel_rfl⟩ (by
    intro args r h
    unfold S_spec_InvertMap at h
    split at h
    · obtain ⟨l0, e0, g0⟩ := withFs_spec h; clear h; subst e0
      split at g0
      · cases g0; kernel_rfl
      · cases g0
    · cases h)

noncomputable def S_impl_InvertMap : Spec := fun args => match args with
  | [.v (.agg xs0)] => withFs xs0 fun l0 => match l0 with
    | [a, b, c, d, e, f, g, h, i] => some [.agg (fsL (List.map (sel (!validMap a b c d e f g h i)) (scaledOut (adj a b c d e f g h i)))), rI (cod (!validMap a b c d e f g h i) 1 (scaledCod (adj a b c d e f g h i)))]
    | _ => none
  | _ => none
theorem ok_impl_InvertMap : SpecOK Try.prog 45 S_impl_InvertMap :=
  auto_ok (Γ := [(55, S_impl_minor), (86, S_impl_scaled), (89, S_impl_ValidMap)]) mixed 12 (ctx_cons ok_impl_minor (ctx_cons ok_impl_scaled (ctx_cons ok_impl_ValidMap ctx_nil))) ⟨Try.func45, by kernel_rfl, by kernel_rfl⟩ (by
    intro args r h
    unfold S_impl_InvertMap at h
    split at h
    · obtain ⟨l0, e0, g0⟩ := withFs_spec h; clear h; subst e0
      split at g0
      · cases g0; kernel_rfl
      · cases g0
    · cases h)

noncomputable def S_laws_FnExactInvertMap : Spec := fun args => match args with
  | [.v (.agg xs0)] => withFs xs0 fun l0 => match l0 with
    | [a, b, c, d, e, f, g, h, i] => some [rB (bif (bif (!allC (List.map (fun x => sameD (fwide x) (fwide x)) (List.map (sel (!validMap a b c d e f g h i)) (scaledOut (adj a b c d e f g h i))))) then true else (((cod (!validMap a b c d e f g h i) 1 (scaledCod (adj a b c d e f g h i))) : Int) != (cod (!validMap a b c d e f g h i) 1 (scaledCod (adj a b c d e f g h i))))) then false else true)]
    | _ => none
  | _ => none
theorem ok_laws_FnExactInvertMap : SpecOK Try.prog 12 S_laws_FnExactInvertMap :=
  auto_ok (Γ := [(34, S_laws_toMap), (41, S_laws_eqMap), (44, S_spec_InvertMap), (45, S_impl_InvertMap)]) mixed 12 (ctx_cons ok_laws_toMap (ctx_cons ok_laws_eqMap (ctx_cons ok_spec_InvertMap (ctx_cons ok_impl_InvertMap ctx_nil)))) ⟨Try.func12, by kernel_rfl, by kernel_rfl⟩ (by
    intro args r h
    unfold S_laws_FnExactInvertMap at h
    split at h
    · obtain ⟨l0, e0, g0⟩ := withFs_spec h; clear h; subst e0
      split at g0
      · cases g0; kernel_rfl
      · cases g0
    · cases h)

noncomputable def S_spec_ComposeMaps : Spec := fun args => match args with
  | [.v (.agg xs0), .v (.agg xs1)] => withFs xs0 fun l0 => withFs xs1 fun l1 => match l0, l1 with
    | [a, b, c, d, e, f, g, h, i], [a', b', c', d', e', f', g', h', i'] => some [.agg (fsL (List.map (sel (bad2M a b c d e f g h i a' b' c' d' e' f' g' h' i')) (scaledOut (comp a b c d e f g h i a' b' c' d' e' f' g' h' i')))), rI (cod (bad2M a b c d e f g h i a' b' c' d' e' f' g' h' i') 1 (scaledCod (comp a b c d e f g h i a' b' c' d' e' f' g' h' i')))]
    | _, _ => none
  | _ => none
theorem ok_spec_ComposeMaps : SpecOK Try.prog 46 S_spec_ComposeMaps :=
  auto_ok (Γ := [(74, S_spec_l05Ok), (84, S_spec_l05Scaled)]) mixed 12 (ctx_cons ok_spec_l05Ok (ctx_cons ok_spec_l05Scaled ctx_nil)) ⟨Try.func46, by kernel_rfl, by kernel_rfl⟩ (by
    intro args r h
    unfold S_spec_ComposeMaps at h
    split at h
    · obtain ⟨l0, e0, g0⟩ := withFs_spec h; clear h; subst e0
      obtain ⟨l1, e1, g1⟩ := withFs_spec g0; clear g0; subst e1
      split at g1
      · cases g1; kernel_rfl
      · cases g1
    · cases h)

noncomputable def S_impl_ComposeMaps : Spec := fun args => match args with
  | [.v (.agg xs0), .v (.agg xs1)] => withFs xs0 fun l0 => withFs xs1 fun l1 => match l0, l1 with
    | [a, b, c, d, e, f, g, h, i], [a', b', c', d', e', f', g', h', i'] => some [.agg (fsL (List.map (sel (bad2M a b c d e f g h i a' b' c' d' e' f' g' h' i')) (scaledOut (comp a b c d e f g h i a' b' c' d' e' f' g' h' i')))), rI (cod (bad2M a b c d e f g h i a' b' c' d' e' f' g' h' i') 1 (scaledCod (comp a b c d e f g h i a' b' c' d' e' f' g' h' i')))]
    | _, _ => none
  | _ => none
theorem ok_impl_ComposeMaps : SpecOK Try.prog 47 S_impl_ComposeMaps :=
  auto_ok (Γ := [(86, S_impl_scaled), (89, S_impl_ValidMap)]) mixed 12 (ctx_cons ok_impl_scaled (ctx_cons ok_impl_ValidMap ctx_nil)) ⟨Try.func47, by kernel_rfl, by kernel_rfl⟩ (by
    intro args r h
    unfold S_impl_ComposeMaps at h
    split at h
    · obtain ⟨l0, e0, g0⟩ := withFs_spec h; clear h; subst e0
      obtain ⟨l1, e1, g1⟩ := withFs_spec g0; clear g0; subst e1
      split at g1
      · cases g1; kernel_rfl
      · cases g1
    · cases h)

noncomputable def S_laws_FnExactComposeMaps : Spec := fun args => match args with
  | [.v (.agg xs0), .v (.agg xs1)] => withFs xs0 fun l0 => withFs xs1 fun l1 => match l0, l1 with
    | [a, b, c, d, e, f, g, h, i], [a', b', c', d', e', f', g', h', i'] => some [rB (bif (bif (!allC (List.map (fun x => sameD (fwide x) (fwide x)) (List.map (sel (bad2M a b c d e f g h i a' b' c' d' e' f' g' h' i')) (scaledOut (comp a b c d e f g h i a' b' c' d' e' f' g' h' i'))))) then true else (((cod (bad2M a b c d e f g h i a' b' c' d' e' f' g' h' i') 1 (scaledCod (comp a b c d e f g h i a' b' c' d' e' f' g' h' i'))) : Int) != (cod (bad2M a b c d e f g h i a' b' c' d' e' f' g' h' i') 1 (scaledCod (comp a b c d e f g h i a' b' c' d' e' f' g' h' i'))))) then false else true)]
    | _, _ => none
  | _ => none
theorem ok_laws_FnExactComposeMaps : SpecOK Try.prog 13 S_laws_FnExactComposeMaps :=
  auto_ok (Γ := [(34, S_laws_toMap), (41, S_laws_eqMap), (46, S_spec_ComposeMaps), (47, S_impl_ComposeMaps)]) mixed 12 (ctx_cons ok_laws_toMap (ctx_cons ok_laws_eqMap (ctx_cons ok_spec_ComposeMaps (ctx_cons ok_impl_ComposeMaps ctx_nil)))) ⟨Try.func13, by kernel_rfl, by kernel_rfl⟩ (by
    intro args r h
    unfold S_laws_FnExactComposeMaps at h
    split at h
    · obtain ⟨l0, e0, g0⟩ := withFs_spec h; clear h; subst e0
      obtain ⟨l1, e1, g1⟩ := withFs_spec g0; clear g0; subst e1
      split at g1
      · cases g1; kernel_rfl
      · cases g1
    · cases h)

noncomputable def S_laws_toPoint : Spec := fun args => match args with
  | [.v (.agg xs0)] => withFs xs0 fun l0 => match l0 with
    | [x, y, z] => some [rA [x, y, z]]
    | _ => none
  | _ => none
theorem ok_laws_toPoint : SpecOK Try.prog 16 S_laws_toPoint :=
  auto_ok (Γ := []) mixed 12 ctx_nil ⟨Try.func16, by kernel_rfl, by kernel_rfl⟩ (by
    intro args r h
    unfold S_laws_toPoint at h
    split at h
    · obtain ⟨l0, e0, g0⟩ := withFs_spec h; clear h; subst e0
      split at g0
      · cases g0; kernel_rfl
      · cases g0
    · cases h)

noncomputable def S_laws_eqPoint : Spec := fun args => match args with
  | [.v (.agg xs0), .v (.agg xs1)] => withFs xs0 fun l0 => withFs xs1 fun l1 => match l0, l1 with
    | [a, b, c], [x, y, z] => some [rB (allC [sameD (fwide a) (fwide x), sameD (fwide b) (fwide y), sameD (fwide c) (fwide z)])]
    | _, _ => none
  | _ => none
theorem ok_laws_eqPoint : SpecOK Try.prog 22 S_laws_eqPoint :=
  auto_ok (Γ := [(25, S_laws_sameFloat)]) mixed 12 (ctx_cons ok_laws_sameFloat ctx_nil) ⟨Try.func22, by kernel_rfl, by kernel_rfl⟩ (by
    intro args r h
    unfold S_laws_eqPoint at h
    split at h
    · obtain ⟨l0, e0, g0⟩ := withFs_spec h; clear h; subst e0
      obtain ⟨l1, e1, g1⟩ := withFs_spec g0; clear g0; subst e1
      split at g1
      · cases g1; kernel_rfl
      · cases g1
    · cases h)

noncomputable def S_laws_toLamp : Spec := fun args => match args with
  | [.v (.agg xs0)] => withM [.f, .f, .f, .b, .f] xs0 fun l0 b0 i0 => match l0, b0, i0 with
    | [a, b, c, t], [s], [] => some [.agg [.c (.f .f32 a), .c (.f .f32 b), .c (.f .f32 c), .c (.b s), .c (.f .f32 t)]]
    | _, _, _ => none
  | _ => none
theorem ok_laws_toLamp : SpecOK Try.prog 37 S_laws_toLamp :=
  auto_ok (Γ := [(16, S_laws_toPoint)]) mixed 12 (ctx_cons ok_laws_toPoint ctx_nil) ⟨Try.func37, by kernel_rfl, by kernel_rfl⟩ (by
    intro args r h
    unfold S_laws_toLamp at h
    split at h
    · obtain ⟨l0, b0, i0, e0, g0⟩ := withM_spec h; clear h; subst e0
      split at g0
      · cases g0; kernel_rfl
      · cases g0
    · cases h)

noncomputable def S_spec_l01Point : Spec := fun args => match args with
  | [.v (.agg xs0)] => withFs xs0 fun l0 => match l0 with
    | [a, b, c] => some [rB (ptOK a b c)]
    | _ => none
  | _ => none
theorem ok_spec_l01Point : SpecOK Try.prog 50 S_spec_l01Point :=
  auto_ok (Γ := [(65, S_spec_l01Plain)]) mixed 12 (ctx_cons ok_spec_l01Plain ctx_nil) ⟨Try.func50, by kernel_rfl, by kernel_rfl⟩ (by
    intro args r h
    unfold S_spec_l01Point at h
    split at h
    · obtain ⟨l0, e0, g0⟩ := withFs_spec h; clear h; subst e0
      split at g0
      · cases g0; kernel_rfl
      · cases g0
    · cases h)

noncomputable def S_spec_ValidPoint : Spec := fun args => match args with
  | [.v (.agg xs0)] => withFs xs0 fun l0 => match l0 with
    | [a, b, c] => some [rB (ptOK a b c)]
    | _ => none
  | _ => none
theorem ok_spec_ValidPoint : SpecOK Try.prog 90 S_spec_ValidPoint :=
  auto_ok (Γ := [(50, S_spec_l01Point)]) mixed 12 (ctx_cons ok_spec_l01Point ctx_nil) ⟨Try.func90, by kernel_rfl, by kernel_rfl⟩ (by
    intro args r h
    unfold S_spec_ValidPoint at h
    split at h
    · obtain ⟨l0, e0, g0⟩ := withFs_spec h; clear h; subst e0
      split at g0
      · cases g0; kernel_rfl
      · cases g0
    · cases h)

abbrev S_math_sqrt : Spec := S_sqrt
theorem ok_math_sqrt : SpecOK Try.prog 126 S_math_sqrt := ok_sqrt (fn := Try.f126) ⟨Try.func126, by kernel_rfl, by kernel_rfl, by kernel_rfl, by kernel_rfl⟩

noncomputable def S_math_Sqrt : Spec := fun args => match args with
  | [.v (.s (.c (.g x)))] => some [.s (.c (.g (fsqrt x)))]
  | _ => none
theorem ok_math_Sqrt : SpecOK Try.prog 122 S_math_Sqrt :=
  auto_ok (Γ := [(126, S_math_sqrt)]) mixed 12 (ctx_cons ok_math_sqrt ctx_nil) ⟨Try.func122, by kernel_rfl, by kernel_rfl⟩ (by
    intro args r h
    unfold S_math_Sqrt at h
    split at h
    · cases h; kernel_rfl
    · cases h)

noncomputable def S_spec_l01Root : Spec := fun args => match args with
  | [.v (.s (.c (.f .f32 a)))] => some [rF (root a)]
  | _ => none
theorem ok_spec_l01Root : SpecOK Try.prog 120 S_spec_l01Root :=
  auto_ok (Γ := [(122, S_math_Sqrt)]) mixed 12 (ctx_cons ok_math_Sqrt ctx_nil) ⟨Try.func120, by kernel_rfl, by kernel_rfl⟩ (by
    intro args r h
    unfold S_spec_l01Root at h
    split at h
    · cases h; kernel_rfl
    · cases h)

noncomputable def S_spec_DotOf : Spec := fun args => match args with
  | [.v (.agg xs0), .v (.agg xs1)] => withFs xs0 fun l0 => withFs xs1 fun l1 => match l0, l1 with
    | [a, b, c], [x, y, z] => some [rF (dot a b c x y z)]
    | _, _ => none
  | _ => none
theorem ok_spec_DotOf : SpecOK Try.prog 121 S_spec_DotOf :=
  auto_ok (Γ := []) mixed 12 ctx_nil ⟨Try.func121, by kernel_rfl, by kernel_rfl⟩ (by
    intro args r h
    unfold S_spec_DotOf at h
    split at h
    · obtain ⟨l0, e0, g0⟩ := withFs_spec h; clear h; subst e0
      obtain ⟨l1, e1, g1⟩ := withFs_spec g0; clear g0; subst e1
      split at g1
      · cases g1; kernel_rfl
      · cases g1
    · cases h)

noncomputable def S_spec_LengthOf : Spec := fun args => match args with
  | [.v (.agg xs0)] => withFs xs0 fun l0 => match l0 with
    | [a, b, c] => some [rF (len a b c)]
    | _ => none
  | _ => none
theorem ok_spec_LengthOf : SpecOK Try.prog 107 S_spec_LengthOf :=
  auto_ok (Γ := [(120, S_spec_l01Root), (121, S_spec_DotOf)]) mixed 12 (ctx_cons ok_spec_l01Root (ctx_cons ok_spec_DotOf ctx_nil)) ⟨Try.func107, by kernel_rfl, by kernel_rfl⟩ (by
    intro args r h
    unfold S_spec_LengthOf at h
    split at h
    · obtain ⟨l0, e0, g0⟩ := withFs_spec h; clear h; subst e0
      split at g0
      · cases g0; kernel_rfl
      · cases g0
    · cases h)

noncomputable def S_spec_l04Ok : Spec := fun args => match args with
  | [.ref xs0] => withM [.f, .f, .f, .b, .f] xs0 fun l0 b0 i0 => match l0, b0, i0 with
    | [a, b, c, t], [s], [] => some [rB (okLamp a b c s t)]
    | _, _, _ => none
  | _ => none
theorem ok_spec_l04Ok : SpecOK Try.prog 80 S_spec_l04Ok :=
  auto_ok (Γ := [(90, S_spec_ValidPoint), (107, S_spec_LengthOf)]) mixed 12 (ctx_cons ok_spec_ValidPoint (ctx_cons ok_spec_LengthOf ctx_nil)) ⟨Try.func80, by kernel_rfl, by kernel_rfl⟩ (by
    intro args r h
    unfold S_spec_l04Ok at h
    split at h
    · obtain ⟨l0, b0, i0, e0, g0⟩ := withM_spec h; clear h; subst e0
      split at g0
      · cases g0; kernel_rfl
      · cases g0
    · cases h)

noncomputable def S_spec_SubPoints : Spec := fun args => match args with
  | [.v (.agg xs0), .v (.agg xs1)] => withFs xs0 fun l0 => withFs xs1 fun l1 => match l0, l1 with
    | [a, b, c], [x, y, z] => some [rA [nsub a x, nsub b y, nsub c z]]
    | _, _ => none
  | _ => none
theorem ok_spec_SubPoints : SpecOK Try.prog 113 S_spec_SubPoints :=
  auto_ok (Γ := []) mixed 12 ctx_nil ⟨Try.func113, by kernel_rfl, by kernel_rfl⟩ (by
    intro args r h
    unfold S_spec_SubPoints at h
    split at h
    · obtain ⟨l0, e0, g0⟩ := withFs_spec h; clear h; subst e0
      obtain ⟨l1, e1, g1⟩ := withFs_spec g0; clear g0; subst e1
      split at g1
      · cases g1; kernel_rfl
      · cases g1
    · cases h)

noncomputable def S_spec_l04Way : Spec := fun args => match args with
  | [.ref xs0, .v (.agg xs1)] => withM [.f, .f, .f, .b, .f] xs0 fun l0 b0 i0 => withFs xs1 fun l1 => match l0, b0, i0, l1 with
    | [a, b, c, t], [s], [], [x, y, z] => some [rA [bif s then a else nsub a x, bif s then b else nsub b y, bif s then c else nsub c z]]
    | _, _, _, _ => none
  | _ => none
theorem ok_spec_l04Way : SpecOK Try.prog 91 S_spec_l04Way :=
  auto_ok (Γ := [(113, S_spec_SubPoints)]) mixed 12 (ctx_cons ok_spec_SubPoints ctx_nil) ⟨Try.func91, by kernel_rfl, by kernel_rfl⟩ (by
    intro args r h
    unfold S_spec_l04Way at h
    split at h
    · obtain ⟨l0, b0, i0, e0, g0⟩ := withM_spec h; clear h; subst e0
      obtain ⟨l1, e1, g1⟩ := withFs_spec g0; clear g0; subst e1
      split at g1
      · cases g1; kernel_rfl
      · cases g1
    · cases h)

noncomputable def S_spec_TowardsLamp : Spec := fun args => match args with
  | [.v (.agg xs0), .v (.agg xs1)] => withM [.f, .f, .f, .b, .f] xs0 fun l0 b0 i0 => withFs xs1 fun l1 => match l0, b0, i0, l1 with
    | [a, b, c, t], [s], [], [x, y, z] => some [.agg (fsL (wayOut (badW a b c s t x y z) s a b c x y z)), rI (cod (badW a b c s t x y z) 1 0)]
    | _, _, _, _ => none
  | _ => none
theorem ok_spec_TowardsLamp : SpecOK Try.prog 48 S_spec_TowardsLamp :=
  auto_ok (Γ := [(80, S_spec_l04Ok), (90, S_spec_ValidPoint), (91, S_spec_l04Way)]) mixed 12 (ctx_cons ok_spec_l04Ok (ctx_cons ok_spec_ValidPoint (ctx_cons ok_spec_l04Way ctx_nil))) ⟨Try.func48, by kernel_rfl, by kernel_rfl⟩ (by
    intro args r h
    unfold S_spec_TowardsLamp at h
    split at h
    · obtain ⟨l0, b0, i0, e0, g0⟩ := withM_spec h; clear h; subst e0
      obtain ⟨l1, e1, g1⟩ := withFs_spec g0; clear g0; subst e1
      split at g1
      · cases g1; kernel_rfl
      · cases g1
    · cases h)

noncomputable def S_impl_areFinite : Spec := fun args => match args with
  | [.sl xs n] => withFs xs fun l => match n, l with
    | 1, [x0] => some [rB (allF isFin [x0])]
    | 2, [x0, x1] => some [rB (allF isFin [x0, x1])]
    | 3, [x0, x1, x2] => some [rB (allF isFin [x0, x1, x2])]
    | _, _ => none
  | _ => none
theorem ok_impl_areFinite : SpecOK Try.prog 97 S_impl_areFinite :=
  auto_ok (Γ := [(110, S_slices_ContainsFunc_float32_float32), (117, S_impl_areFinite_1)]) mixed 14 (ctx_cons ok_slices_ContainsFunc_float32_float32 (ctx_cons ok_impl_areFinite_1 ctx_nil)) ⟨Try.func97, by kernel_rfl, by kernel_rfl⟩ (by
    intro args r h
    unfold S_impl_areFinite at h
    split at h
    · obtain ⟨l0, e0, g0⟩ := withFs_spec h; clear h; subst e0
      split at g0
      · rename_i x0; cases g0
        have e : funcSpec Try.prog [(110, S_slices_ContainsFunc_float32_float32), (117, S_impl_areFinite_1)] 14 Try.f97 [.sl (fsL [x0]) 1] = some [rB (!decide (idxB 0 [!isFin x0] ≥ 0))] := by kernel_rfl
        rw [e, not_idxB]; rfl
      · rename_i x0 x1; cases g0
        have e : funcSpec Try.prog [(110, S_slices_ContainsFunc_float32_float32), (117, S_impl_areFinite_1)] 14 Try.f97 [.sl (fsL [x0, x1]) 2] = some [rB (!decide (idxB 0 [!isFin x0, !isFin x1] ≥ 0))] := by kernel_rfl
        rw [e, not_idxB]; rfl
      · rename_i x0 x1 x2; cases g0
        have e : funcSpec Try.prog [(110, S_slices_ContainsFunc_float32_float32), (117, S_impl_areFinite_1)] 14 Try.f97 [.sl (fsL [x0, x1, x2]) 3] = some [rB (!decide (idxB 0 [!isFin x0, !isFin x1, !isFin x2] ≥ 0))] := by kernel_rfl
        rw [e, not_idxB]; rfl
      · cases g0
    · cases h)

noncomputable def S_impl_finite : Spec := fun args => match args with
  | [.v (.agg xs0)] => withFs xs0 fun l0 => match l0 with
    | [a, b, c] => some [rA [sel (!fin3 a b c) a, sel (!fin3 a b c) b, sel (!fin3 a b c) c], rI (cod (!fin3 a b c) 4 0)]
    | _ => none
  | _ => none
theorem ok_impl_finite : SpecOK Try.prog 61 S_impl_finite :=
  auto_ok (Γ := [(97, S_impl_areFinite)]) mixed 12 (ctx_cons ok_impl_areFinite ctx_nil) ⟨Try.func61, by kernel_rfl, by kernel_rfl⟩ (by
    intro args r h
    unfold S_impl_finite at h
    split at h
    · rename_i xs0
      obtain ⟨l0, e0, g0⟩ := withFs_spec h; clear h; subst e0
      split at g0
      · rename_i a b c; cases g0; exact (show _ = some [rA [sel (!allF isFin [a, b, c]) a, sel (!allF isFin [a, b, c]) b, sel (!allF isFin [a, b, c]) c], rI (cod (!allF isFin [a, b, c]) 4 0)] by kernel_rfl).trans (by unfold fin3; simp only [ptOK, spotOK, allPts, allSps, all2, all3, ptF, spotF, allF, allL, sel, cod, List.map, allC_cons, allC_nil, bif_f, bif_t, Bool.not_not, Bool.not_and, Bool.not_or, Bool.and_true, Bool.or_false, Bool.and_assoc, Bool.or_assoc, code_ne, bif_bif, cond_true, cond_false])
      · cases g0
    · cases h)

noncomputable def S_impl_ValidPoint : Spec := fun args => match args with
  | [.v (.agg xs0)] => withFs xs0 fun l0 => match l0 with
    | [a, b, c] => some [rB (ptOK a b c)]
    | _ => none
  | _ => none
theorem ok_impl_ValidPoint : SpecOK Try.prog 81 S_impl_ValidPoint :=
  auto_ok (Γ := [(85, S_impl_arePlain)]) mixed 12 (ctx_cons ok_impl_arePlain ctx_nil) ⟨Try.func81, by kernel_rfl, by kernel_rfl⟩ (by
    intro args r h
    unfold S_impl_ValidPoint at h
    split at h
    · rename_i xs0
      obtain ⟨l0, e0, g0⟩ := withFs_spec h; clear h; subst e0
      split at g0
      · rename_i a b c; cases g0; exact (show _ = some [rB (allF isPlain [a, b, c])] by kernel_rfl).trans (by simp only [ptOK, spotOK, allPts, allSps, all2, all3, ptF, spotF, allF, allL, sel, cod, List.map, allC_cons, allC_nil, bif_f, bif_t, Bool.not_not, Bool.not_and, Bool.not_or, Bool.and_true, Bool.or_false, Bool.and_assoc, Bool.or_assoc, code_ne, bif_bif, cond_true, cond_false])
      · cases g0
    · cases h)

noncomputable def S_impl_root : Spec := fun args => match args with
  | [.v (.s (.c (.f .f32 a)))] => some [rF (root a)]
  | _ => none
theorem ok_impl_root : SpecOK Try.prog 108 S_impl_root :=
  auto_ok (Γ := [(122, S_math_Sqrt)]) mixed 12 (ctx_cons ok_math_Sqrt ctx_nil) ⟨Try.func108, by kernel_rfl, by kernel_rfl⟩ (by
    intro args r h
    unfold S_impl_root at h
    split at h
    · cases h; kernel_rfl
    · cases h)

noncomputable def S_impl_DotOf : Spec := fun args => match args with
  | [.v (.agg xs0), .v (.agg xs1)] => withFs xs0 fun l0 => withFs xs1 fun l1 => match l0, l1 with
    | [a, b, c], [x, y, z] => some [rF (dot a b c x y z)]
    | _, _ => none
  | _ => none
theorem ok_impl_DotOf : SpecOK Try.prog 109 S_impl_DotOf :=
  auto_ok (Γ := []) mixed 12 ctx_nil ⟨Try.func109, by kernel_rfl, by kernel_rfl⟩ (by
    intro args r h
    unfold S_impl_DotOf at h
    split at h
    · obtain ⟨l0, e0, g0⟩ := withFs_spec h; clear h; subst e0
      obtain ⟨l1, e1, g1⟩ := withFs_spec g0; clear g0; subst e1
      split at g1
      · cases g1; kernel_rfl
      · cases g1
    · cases h)

noncomputable def S_impl_LengthOf : Spec := fun args => match args with
  | [.v (.agg xs0)] => withFs xs0 fun l0 => match l0 with
    | [a, b, c] => some [rF (len a b c)]
    | _ => none
  | _ => none
theorem ok_impl_LengthOf : SpecOK Try.prog 82 S_impl_LengthOf :=
  auto_ok (Γ := [(108, S_impl_root), (109, S_impl_DotOf)]) mixed 12 (ctx_cons ok_impl_root (ctx_cons ok_impl_DotOf ctx_nil)) ⟨Try.func82, by kernel_rfl, by kernel_rfl⟩ (by
    intro args r h
    unfold S_impl_LengthOf at h
    split at h
    · obtain ⟨l0, e0, g0⟩ := withFs_spec h; clear h; subst e0
      split at g0
      · cases g0; kernel_rfl
      · cases g0
    · cases h)

noncomputable def S_impl_ValidLamp : Spec := fun args => match args with
  | [.v (.agg xs0)] => withM [.f, .f, .f, .b, .f] xs0 fun l0 b0 i0 => match l0, b0, i0 with
    | [a, b, c, t], [s], [] => some [rB (okLamp a b c s t)]
    | _, _, _ => none
  | _ => none
theorem ok_impl_ValidLamp : SpecOK Try.prog 38 S_impl_ValidLamp :=
  auto_ok (Γ := [(81, S_impl_ValidPoint), (82, S_impl_LengthOf)]) mixed 12 (ctx_cons ok_impl_ValidPoint (ctx_cons ok_impl_LengthOf ctx_nil)) ⟨Try.func38, by kernel_rfl, by kernel_rfl⟩ (by
    intro args r h
    unfold S_impl_ValidLamp at h
    split at h
    · obtain ⟨l0, b0, i0, e0, g0⟩ := withM_spec h; clear h; subst e0
      split at g0
      · cases g0; kernel_rfl
      · cases g0
    · cases h)

noncomputable def S_impl_arePoints_1 : Spec := fun args => match args with
  | [.v (.agg xs0)] => withFs xs0 fun l0 => match l0 with
    | [a, b, c] => some [rB (!ptF a b c)]
    | _ => none
  | _ => none
theorem ok_impl_arePoints_1 : SpecOK Try.prog 95 S_impl_arePoints_1 :=
  auto_ok (Γ := [(81, S_impl_ValidPoint)]) mixed 12 (ctx_cons ok_impl_ValidPoint ctx_nil) ⟨Try.func95, by kernel_rfl, by kernel_rfl⟩ (by
    intro args r h
    unfold S_impl_arePoints_1 at h
    split at h
    · rename_i xs0
      obtain ⟨l0, e0, g0⟩ := withFs_spec h; clear h; subst e0
      split at g0
      · rename_i a b c; cases g0; exact (show _ = some [rB (!ptOK a b c)] by kernel_rfl).trans (by simp only [ptOK, spotOK, allPts, allSps, all2, all3, ptF, spotF, allF, allL, sel, cod, List.map, allC_cons, allC_nil, bif_f, bif_t, Bool.not_not, Bool.not_and, Bool.not_or, Bool.and_true, Bool.or_false, Bool.and_assoc, Bool.or_assoc, code_ne, bif_bif, cond_true, cond_false])
      · cases g0
    · cases h)

noncomputable def S_slices_IndexFunc_impl_Point_impl_Point : Spec := funcSpec Try.prog [(95, S_impl_arePoints_1)] 14 Try.f115
theorem ok_slices_IndexFunc_impl_Point_impl_Point : SpecOK Try.prog 115 S_slices_IndexFunc_impl_Point_impl_Point := func_sound (ctx_cons ok_impl_arePoints_1 ctx_nil) mixed 14 ⟨Try.func115, by kernel_rfl, by kernel_rfl⟩

noncomputable def S_slices_ContainsFunc_impl_Point_impl_Point : Spec := funcSpec Try.prog [(115, S_slices_IndexFunc_impl_Point_impl_Point), (95, S_impl_arePoints_1)] 14 Try.f94
theorem ok_slices_ContainsFunc_impl_Point_impl_Point : SpecOK Try.prog 94 S_slices_ContainsFunc_impl_Point_impl_Point := func_sound (ctx_cons ok_slices_IndexFunc_impl_Point_impl_Point (ctx_cons ok_impl_arePoints_1 ctx_nil)) mixed 14 ⟨Try.func94, by kernel_rfl, by kernel_rfl⟩

noncomputable def S_impl_arePoints : Spec := fun args => match args with
  | [.sl xs n] => withFs xs fun l => match n, l with
    | 1, [x0, x1, x2] => some [rB (allPts [x0, x1, x2])]
    | 2, [x0, x1, x2, x3, x4, x5] => some [rB (allPts [x0, x1, x2, x3, x4, x5])]
    | 3, [x0, x1, x2, x3, x4, x5, x6, x7, x8] => some [rB (allPts [x0, x1, x2, x3, x4, x5, x6, x7, x8])]
    | 4, [x0, x1, x2, x3, x4, x5, x6, x7, x8, x9, x10, x11] => some [rB (allPts [x0, x1, x2, x3, x4, x5, x6, x7, x8, x9, x10, x11])]
    | _, _ => none
  | _ => none
theorem ok_impl_arePoints : SpecOK Try.prog 54 S_impl_arePoints :=
  auto_ok (Γ := [(94, S_slices_ContainsFunc_impl_Point_impl_Point), (95, S_impl_arePoints_1)]) mixed 14 (ctx_cons ok_slices_ContainsFunc_impl_Point_impl_Point (ctx_cons ok_impl_arePoints_1 ctx_nil)) ⟨Try.func54, by kernel_rfl, by kernel_rfl⟩ (by
    intro args r h
    unfold S_impl_arePoints at h
    split at h
    · obtain ⟨l0, e0, g0⟩ := withFs_spec h; clear h; subst e0
      split at g0
      · rename_i x0 x1 x2; cases g0
        have e : funcSpec Try.prog [(94, S_slices_ContainsFunc_impl_Point_impl_Point), (95, S_impl_arePoints_1)] 14 Try.f54 [.sl (fsL [x0, x1, x2]) 1] = some [rB (!decide (idxB 0 [!ptF x0 x1 x2] ≥ 0))] := by kernel_rfl
        rw [e, not_idxB]; rfl
      · rename_i x0 x1 x2 x3 x4 x5; cases g0
        have e : funcSpec Try.prog [(94, S_slices_ContainsFunc_impl_Point_impl_Point), (95, S_impl_arePoints_1)] 14 Try.f54 [.sl (fsL [x0, x1, x2, x3, x4, x5]) 2] = some [rB (!decide (idxB 0 [!ptF x0 x1 x2, !ptF x3 x4 x5] ≥ 0))] := by kernel_rfl
        rw [e, not_idxB]; rfl
      · rename_i x0 x1 x2 x3 x4 x5 x6 x7 x8; cases g0
        have e : funcSpec Try.prog [(94, S_slices_ContainsFunc_impl_Point_impl_Point), (95, S_impl_arePoints_1)] 14 Try.f54 [.sl (fsL [x0, x1, x2, x3, x4, x5, x6, x7, x8]) 3] = some [rB (!decide (idxB 0 [!ptF x0 x1 x2, !ptF x3 x4 x5, !ptF x6 x7 x8] ≥ 0))] := by kernel_rfl
        rw [e, not_idxB]; rfl
      · rename_i x0 x1 x2 x3 x4 x5 x6 x7 x8 x9 x10 x11; cases g0
        have e : funcSpec Try.prog [(94, S_slices_ContainsFunc_impl_Point_impl_Point), (95, S_impl_arePoints_1)] 14 Try.f54 [.sl (fsL [x0, x1, x2, x3, x4, x5, x6, x7, x8, x9, x10, x11]) 4] = some [rB (!decide (idxB 0 [!ptF x0 x1 x2, !ptF x3 x4 x5, !ptF x6 x7 x8, !ptF x9 x10 x11] ≥ 0))] := by kernel_rfl
        rw [e, not_idxB]; rfl
      · cases g0
    · cases h)

noncomputable def S_impl_when : Spec := fun args => match args with
  | [.v (.s (.c (.b b))), .v (.s (.c (.i .i64 n)))] => some [rI (bif b then n else 0)]
  | _ => none
theorem ok_impl_when : SpecOK Try.prog 106 S_impl_when :=
  auto_ok (Γ := []) mixed 12 ctx_nil ⟨Try.func106, by kernel_rfl, by kernel_rfl⟩ (by
    intro args r h
    unfold S_impl_when at h
    split at h
    · cases h; kernel_rfl
    · cases h)

noncomputable def S_impl_lampCode : Spec := funcSpec Try.prog [(38, S_impl_ValidLamp), (54, S_impl_arePoints), (106, S_impl_when)] 14 Try.f92
theorem ok_impl_lampCode : SpecOK Try.prog 92 S_impl_lampCode := func_sound (ctx_cons ok_impl_ValidLamp (ctx_cons ok_impl_arePoints (ctx_cons ok_impl_when ctx_nil))) mixed 14 ⟨Try.func92, by kernel_rfl, by kernel_rfl⟩

noncomputable def S_impl_SubPoints : Spec := fun args => match args with
  | [.v (.agg xs0), .v (.agg xs1)] => withFs xs0 fun l0 => withFs xs1 fun l1 => match l0, l1 with
    | [a, b, c], [x, y, z] => some [rA [nsub a x, nsub b y, nsub c z]]
    | _, _ => none
  | _ => none
theorem ok_impl_SubPoints : SpecOK Try.prog 114 S_impl_SubPoints :=
  auto_ok (Γ := []) mixed 12 ctx_nil ⟨Try.func114, by kernel_rfl, by kernel_rfl⟩ (by
    intro args r h
    unfold S_impl_SubPoints at h
    split at h
    · obtain ⟨l0, e0, g0⟩ := withFs_spec h; clear h; subst e0
      obtain ⟨l1, e1, g1⟩ := withFs_spec g0; clear g0; subst e1
      split at g1
      · cases g1; kernel_rfl
      · cases g1
    · cases h)

noncomputable def S_impl_Lamp_towards : Spec := fun args => match args with
  | [.ref xs0, .v (.agg xs1)] => withM [.f, .f, .f, .b, .f] xs0 fun l0 b0 i0 => withFs xs1 fun l1 => match l0, b0, i0, l1 with
    | [a, b, c, t], [s], [], [x, y, z] => some [rA [bif s then a else nsub a x, bif s then b else nsub b y, bif s then c else nsub c z]]
    | _, _, _, _ => none
  | _ => none
theorem ok_impl_Lamp_towards : SpecOK Try.prog 93 S_impl_Lamp_towards :=
  auto_ok (Γ := [(114, S_impl_SubPoints)]) mixed 12 (ctx_cons ok_impl_SubPoints ctx_nil) ⟨Try.func93, by kernel_rfl, by kernel_rfl⟩ (by
    intro args r h
    unfold S_impl_Lamp_towards at h
    split at h
    · obtain ⟨l0, b0, i0, e0, g0⟩ := withM_spec h; clear h; subst e0
      obtain ⟨l1, e1, g1⟩ := withFs_spec g0; clear g0; subst e1
      split at g1
      · cases g1; kernel_rfl
      · cases g1
    · cases h)

noncomputable def S_impl_TowardsLamp : Spec := fun args => match args with
  | [.v (.agg xs0), .v (.agg xs1)] => withM [.f, .f, .f, .b, .f] xs0 fun l0 b0 i0 => withFs xs1 fun l1 => match l0, b0, i0, l1 with
    | [a, b, c, t], [s], [], [x, y, z] => some [.agg (fsL (wayOut (badW a b c s t x y z) s a b c x y z)), rI (cod (badW a b c s t x y z) 1 0)]
    | _, _, _, _ => none
  | _ => none
theorem ok_impl_TowardsLamp : SpecOK Try.prog 49 S_impl_TowardsLamp :=
  auto_ok (Γ := [(61, S_impl_finite), (92, S_impl_lampCode), (93, S_impl_Lamp_towards)]) mixed 12 (ctx_cons ok_impl_finite (ctx_cons ok_impl_lampCode (ctx_cons ok_impl_Lamp_towards ctx_nil))) ⟨Try.func49, by kernel_rfl, by kernel_rfl⟩ (by
    intro args r h
    unfold S_impl_TowardsLamp at h
    split at h
    · rename_i xs0 xs1
      obtain ⟨l0, b0, i0, e0, g0⟩ := withM_spec h; clear h; subst e0
      obtain ⟨l1, e1, g1⟩ := withFs_spec g0; clear g0; subst e1
      split at g1
      · rename_i a b c t s x y z; cases g1; exact (show _ = some [.agg (fsL ([wayC s a x, wayC s b y, wayC s c z].map fun q => sel ((bif (bif !okLamp a b c s t then true else !allPts [x, y, z]) then (1 : Int) else 0) != 0) (sel (!fin3 (wayC s a x) (wayC s b y) (wayC s c z)) q))), rI (cod ((bif (bif !okLamp a b c s t then true else !allPts [x, y, z]) then (1 : Int) else 0) != 0) (bif (bif !okLamp a b c s t then true else !allPts [x, y, z]) then (1 : Int) else 0) (cod (!fin3 (wayC s a x) (wayC s b y) (wayC s c z)) 4 0))] by kernel_rfl).trans (by rw [code_ne, cod_code, allPts1]; show some [.agg (fsL ([wayC s a x, wayC s b y, wayC s c z].map fun q => sel (badW a b c s t x y z) (sel (!fin3 (wayC s a x) (wayC s b y) (wayC s c z)) q))), rI (cod (badW a b c s t x y z) 1 (cod (!fin3 (wayC s a x) (wayC s b y) (wayC s c z)) 4 0))] = some [.agg (fsL (wayOut (badW a b c s t x y z) s a b c x y z)), rI (cod (badW a b c s t x y z) 1 0)]; rcases way_done a b c s t x y z with h | h <;> rw [h] <;> rfl)
      · cases g1
    · cases h)

noncomputable def S_laws_FnExactTowardsLamp : Spec := fun args => match args with
  | [.v (.agg xs0), .v (.agg xs1)] => withM [.f, .f, .f, .b, .f] xs0 fun l0 b0 i0 => withFs xs1 fun l1 => match l0, b0, i0, l1 with
    | [a, b, c, t], [s], [], [x, y, z] => some [rB (bif (bif (!allC (List.map (fun x => sameD (fwide x) (fwide x)) (wayOut (badW a b c s t x y z) s a b c x y z))) then true else (((cod (badW a b c s t x y z) 1 0) : Int) != (cod (badW a b c s t x y z) 1 0))) then false else true)]
    | _, _, _, _ => none
  | _ => none
theorem ok_laws_FnExactTowardsLamp : SpecOK Try.prog 14 S_laws_FnExactTowardsLamp :=
  auto_ok (Γ := [(16, S_laws_toPoint), (22, S_laws_eqPoint), (37, S_laws_toLamp), (48, S_spec_TowardsLamp), (49, S_impl_TowardsLamp)]) mixed 12 (ctx_cons ok_laws_toPoint (ctx_cons ok_laws_eqPoint (ctx_cons ok_laws_toLamp (ctx_cons ok_spec_TowardsLamp (ctx_cons ok_impl_TowardsLamp ctx_nil))))) ⟨Try.func14, by kernel_rfl, by kernel_rfl⟩ (by
    intro args r h
    unfold S_laws_FnExactTowardsLamp at h
    split at h
    · obtain ⟨l0, b0, i0, e0, g0⟩ := withM_spec h; clear h; subst e0
      obtain ⟨l1, e1, g1⟩ := withFs_spec g0; clear g0; subst e1
      split at g1
      · cases g1; kernel_rfl
      · cases g1
    · cases h)

end Go.Proofs.Ytlklakllkicblaa
