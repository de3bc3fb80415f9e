/- Contracts of the functions that the laws of this seat reach. -/
import Derived.Test.YtkmijohkblmajaaMod
import Derived.Test.YtkmijohkblmajaaChecked
namespace Go.Proofs.Ytkmijohkblmajaa
open Go Go.RowKit
set_option maxRecDepth 20000
set_option linter.all false
theorem mixed : Try.prog.follows .mixedOrders = true := by kernel_rfl
noncomputable def S_spec_l05Two : Spec := fun args => match args with
  | [.v (.s (.c (.f .f32 a))), .v (.s (.c (.f .f32 d))), .v (.s (.c (.f .f32 b))), .v (.s (.c (.f .f32 c)))] => some [rF (minor a b c d)]
  | _ => none
theorem ok_spec_l05Two : SpecOK Try.prog 135 S_spec_l05Two :=
  auto_ok (Γ := []) mixed 12 ctx_nil ⟨Try.func135, by kernel_rfl, by kernel_rfl⟩ (by
    intro args r h
    unfold S_spec_l05Two at h
    split at h
    · cases h; kernel_rfl
    · cases h)

noncomputable def S_spec_TurnsLeft : Spec := fun args => match args with
  | [.v (.agg xs0), .v (.agg xs1), .v (.agg xs2)] => withFs xs0 fun l0 => withFs xs1 fun l1 => withFs xs2 fun l2 => match l0, l1, l2 with
    | [a0, a1], [b0, b1], [c0, c1] => some [rF (turnsLeft a0 a1 b0 b1 c0 c1)]
    | _, _, _ => none
  | _ => none
theorem ok_spec_TurnsLeft : SpecOK Try.prog 65 S_spec_TurnsLeft :=
  auto_ok (Γ := [(135, S_spec_l05Two)]) mixed 12 (ctx_cons ok_spec_l05Two ctx_nil) ⟨Try.func65, by kernel_rfl, by kernel_rfl⟩ (by
    intro args r h
    unfold S_spec_TurnsLeft at h
    split at h
    · obtain ⟨l0, e0, g0⟩ := withFs_spec h; clear h; subst e0
      obtain ⟨l1, e1, g1⟩ := withFs_spec g0; clear g0; subst e1
      obtain ⟨l2, e2, g2⟩ := withFs_spec g1; clear g1; subst e2
      split at g2
      · cases g2; kernel_rfl
      · cases g2
    · cases h)

noncomputable def S_spec_l01Small : Spec := fun args => match args with
  | [.v (.s (.c (.f .f32 a)))] => some [rB (small a)]
  | _ => none
theorem ok_spec_l01Small : SpecOK Try.prog 66 S_spec_l01Small :=
  auto_ok (Γ := []) mixed 12 ctx_nil ⟨Try.func66, by kernel_rfl, by kernel_rfl⟩ (by
    intro args r h
    unfold S_spec_l01Small at h
    split at h
    · cases h; kernel_rfl
    · cases h)

noncomputable def S_spec_IsConvexFour : Spec := fun args => match args with
  | [.v (.agg xs0)] => withFs xs0 fun l0 => match l0 with
    | [a, b, c, d, e, f, g, h] => some [rB (isConvexFour a b c d e f g h)]
    | _ => none
  | _ => none
theorem ok_spec_IsConvexFour : SpecOK Try.prog 15 S_spec_IsConvexFour :=
  auto_ok (Γ := [(65, S_spec_TurnsLeft), (66, S_spec_l01Small)]) mixed 16 (ctx_cons ok_spec_TurnsLeft (ctx_cons ok_spec_l01Small ctx_nil)) ⟨Try.func15, by kernel_rfl, by kernel_rfl⟩ (by
    intro args r h
    unfold S_spec_IsConvexFour at h
    split at h
    · obtain ⟨l0, e0, g0⟩ := withFs_spec h; clear h; subst e0
      split at g0
      · cases g0; kernel_rfl
      · cases g0
    · cases h)

noncomputable def S_laws_toSpot : Spec := fun args => match args with
  | [.v (.agg xs0)] => withFs xs0 fun l0 => match l0 with
    | [x, y] => some [rA [x, y]]
    | _ => none
  | _ => none
theorem ok_laws_toSpot : SpecOK Try.prog 67 S_laws_toSpot :=
  auto_ok (Γ := []) mixed 12 ctx_nil ⟨Try.func67, by kernel_rfl, by kernel_rfl⟩ (by
    intro args r h
    unfold S_laws_toSpot at h
    split at h
    · obtain ⟨l0, e0, g0⟩ := withFs_spec h; clear h; subst e0
      split at g0
      · cases g0; kernel_rfl
      · cases g0
    · cases h)

noncomputable def S_laws_toSpotA4 : Spec := fun args => match args with
  | [.v (.agg xs0)] => withFs xs0 fun l0 => match l0 with
    | [a, b, c, d, e, f, g, h] => some [rA [a, b, c, d, e, f, g, h]]
    | _ => none
  | _ => none
theorem ok_laws_toSpotA4 : SpecOK Try.prog 16 S_laws_toSpotA4 :=
  auto_ok (Γ := [(67, S_laws_toSpot)]) mixed 12 (ctx_cons ok_laws_toSpot ctx_nil) ⟨Try.func16, by kernel_rfl, by kernel_rfl⟩ (by
    intro args r h
    unfold S_laws_toSpotA4 at h
    split at h
    · obtain ⟨l0, e0, g0⟩ := withFs_spec h; clear h; subst e0
      split at g0
      · cases g0; kernel_rfl
      · cases g0
    · cases h)

noncomputable def S_impl_minor : Spec := fun args => match args with
  | [.v (.s (.c (.f .f32 a))), .v (.s (.c (.f .f32 b))), .v (.s (.c (.f .f32 c))), .v (.s (.c (.f .f32 d)))] => some [rF (minor a b c d)]
  | _ => none
theorem ok_impl_minor : SpecOK Try.prog 136 S_impl_minor :=
  auto_ok (Γ := []) mixed 12 ctx_nil ⟨Try.func136, by kernel_rfl, by kernel_rfl⟩ (by
    intro args r h
    unfold S_impl_minor at h
    split at h
    · cases h; kernel_rfl
    · cases h)

noncomputable def S_impl_TurnsLeft : Spec := fun args => match args with
  | [.v (.agg xs0), .v (.agg xs1), .v (.agg xs2)] => withFs xs0 fun l0 => withFs xs1 fun l1 => withFs xs2 fun l2 => match l0, l1, l2 with
    | [a0, a1], [b0, b1], [c0, c1] => some [rF (turnsLeft a0 a1 b0 b1 c0 c1)]
    | _, _, _ => none
  | _ => none
theorem ok_impl_TurnsLeft : SpecOK Try.prog 68 S_impl_TurnsLeft :=
  auto_ok (Γ := [(136, S_impl_minor)]) mixed 12 (ctx_cons ok_impl_minor ctx_nil) ⟨Try.func68, by kernel_rfl, by kernel_rfl⟩ (by
    intro args r h
    unfold S_impl_TurnsLeft at h
    split at h
    · obtain ⟨l0, e0, g0⟩ := withFs_spec h; clear h; subst e0
      obtain ⟨l1, e1, g1⟩ := withFs_spec g0; clear g0; subst e1
      obtain ⟨l2, e2, g2⟩ := withFs_spec g1; clear g1; subst e2
      split at g2
      · cases g2; kernel_rfl
      · cases g2
    · cases h)

abbrev S_math_Float64frombits : Spec := S_from64
theorem ok_math_Float64frombits : SpecOK Try.prog 219 S_math_Float64frombits := ok_from64 (fn := Try.f219) ⟨Try.func219, by kernel_rfl, by kernel_rfl, by kernel_rfl, by kernel_rfl⟩

abbrev S_math_Float64bits : Spec := S_bits64
theorem ok_math_Float64bits : SpecOK Try.prog 220 S_math_Float64bits := ok_bits64 (fn := Try.f220) ⟨Try.func220, by kernel_rfl, by kernel_rfl, by kernel_rfl, by kernel_rfl⟩

abbrev S_math_Abs : Spec := S_abs
theorem ok_math_Abs : SpecOK Try.prog 196 S_math_Abs := ok_abs_of (func_sound (Γ := [(220, S_math_Float64bits), (219, S_math_Float64frombits)]) (ctx_cons ok_math_Float64bits (ctx_cons ok_math_Float64frombits ctx_nil)) mixed 12 ⟨Try.func196, by kernel_rfl, by kernel_rfl⟩) (fun b => by kernel_rfl)
noncomputable def S_impl_size : Spec := fun args => match args with
  | [.v (.s (.c (.f .f32 a)))] => some [rF (nabs a)]
  | _ => none
theorem ok_impl_size : SpecOK Try.prog 137 S_impl_size :=
  auto_ok (Γ := [(196, S_math_Abs)]) mixed 12 (ctx_cons ok_math_Abs ctx_nil) ⟨Try.func137, by kernel_rfl, by kernel_rfl⟩ (by
    intro args r h
    unfold S_impl_size at h
    split at h
    · cases h; kernel_rfl
    · cases h)

noncomputable def S_impl_isSmall : Spec := fun args => match args with
  | [.v (.s (.c (.f .f32 a)))] => some [rB (small a)]
  | _ => none
theorem ok_impl_isSmall : SpecOK Try.prog 69 S_impl_isSmall :=
  auto_ok (Γ := [(137, S_impl_size)]) mixed 12 (ctx_cons ok_impl_size ctx_nil) ⟨Try.func69, by kernel_rfl, by kernel_rfl⟩ (by
    intro args r h
    unfold S_impl_isSmall at h
    split at h
    · rename_i a; cases h; exact (show _ = some [rB (!fge .f32 (nabs a) 897581056)] by kernel_rfl).trans (congrArg (fun b => some [rB b]) (small_eq a))
    · cases h)

noncomputable def S_impl_IsConvexFour : Spec := fun args => match args with
  | [.v (.agg xs0)] => withFs xs0 fun l0 => match l0 with
    | [a, b, c, d, e, f, g, h] => some [rB (isConvexFour a b c d e f g h)]
    | _ => none
  | _ => none
theorem ok_impl_IsConvexFour : SpecOK Try.prog 17 S_impl_IsConvexFour :=
  auto_ok (Γ := [(68, S_impl_TurnsLeft), (69, S_impl_isSmall)]) mixed 16 (ctx_cons ok_impl_TurnsLeft (ctx_cons ok_impl_isSmall ctx_nil)) ⟨Try.func17, by kernel_rfl, by kernel_rfl⟩ (by
    intro args r h
    unfold S_impl_IsConvexFour at h
    split at h
    · rename_i xs0
      obtain ⟨l0, e0, g0⟩ := withFs_spec h; clear h; subst e0
      split at g0
      · rename_i a b c d e f g h; cases g0; exact (show _ = some [rB (isConvexFourI a b c d e f g h)] by kernel_rfl).trans (by rw [isConvexFour_eq])
      · cases g0
    · cases h)

noncomputable def S_laws_FnExactIsConvexFour : Spec := fun args => match args with
  | [.v (.agg xs0)] => withFs xs0 fun l0 => match l0 with
    | [a, b, c, d, e, f, g, h] => some [rB (bif (!(((isConvexFour a b c d e f g h) : Bool) == (isConvexFour a b c d e f g h))) then false else true)]
    | _ => none
  | _ => none
theorem ok_laws_FnExactIsConvexFour : SpecOK Try.prog 3 S_laws_FnExactIsConvexFour :=
  auto_ok (Γ := [(15, S_spec_IsConvexFour), (16, S_laws_toSpotA4), (17, S_impl_IsConvexFour)]) mixed 12 (ctx_cons ok_spec_IsConvexFour (ctx_cons ok_laws_toSpotA4 (ctx_cons ok_impl_IsConvexFour ctx_nil))) ⟨Try.func3, by kernel_rfl, by kernel_rfl⟩ (by
    intro args r h
    unfold S_laws_FnExactIsConvexFour at h
    split at h
    · obtain ⟨l0, e0, g0⟩ := withFs_spec h; clear h; subst e0
      split at g0
      · cases g0; kernel_rfl
      · cases g0
    · cases h)

end Go.Proofs.Ytkmijohkblmajaa
