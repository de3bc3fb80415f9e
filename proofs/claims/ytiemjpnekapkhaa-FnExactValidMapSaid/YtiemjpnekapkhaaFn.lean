/- Contracts of the functions that the laws of this seat reach. -/
import Derived.Test.YtiemjpnekapkhaaMod
import Derived.Test.YtiemjpnekapkhaaChecked
namespace Go.Proofs.Ytiemjpnekapkhaa
open Go Go.RowKit
set_option maxRecDepth 20000
theorem mixed : Try.prog.follows .mixedOrders = true := by kernel_rfl
noncomputable def S_spec_l05Two : Spec := fun args => match args with
  | [.v (.s (.c (.f .f32 a))), .v (.s (.c (.f .f32 d))), .v (.s (.c (.f .f32 b))), .v (.s (.c (.f .f32 c)))] => some [rF (minor a b c d)]
  | _ => none
theorem ok_spec_l05Two : SpecOK Try.prog 26 S_spec_l05Two :=
  auto_ok (Γ := []) mixed 12 ctx_nil ⟨Try.func26, by kernel_rfl, by kernel_rfl⟩ (by
    intro args r h
    unfold S_spec_l05Two at h
    split at h
    · cases h; kernel_rfl
    · cases h)

noncomputable def S_spec_TurnsLeft : Spec := fun args => match args with
  | [.v (.agg xs0), .v (.agg xs1), .v (.agg xs2)] => withFs xs0 fun l0 => withFs xs1 fun l1 => withFs xs2 fun l2 => match l0, l1, l2 with
    | [a0, a1], [b0, b1], [c0, c1] => some [rF (turnsLeft a0 a1 b0 b1 c0 c1)]
    | _, _, _ => none
  | _ => none
theorem ok_spec_TurnsLeft : SpecOK Try.prog 9 S_spec_TurnsLeft :=
  auto_ok (Γ := [(26, S_spec_l05Two)]) mixed 12 (ctx_cons ok_spec_l05Two ctx_nil) ⟨Try.func9, by kernel_rfl, by kernel_rfl⟩ (by
    intro args r h
    unfold S_spec_TurnsLeft at h
    split at h
    · obtain ⟨l0, e0, g0⟩ := withFs_spec h; clear h; subst e0
      obtain ⟨l1, e1, g1⟩ := withFs_spec g0; clear g0; subst e1
      obtain ⟨l2, e2, g2⟩ := withFs_spec g1; clear g1; subst e2
      split at g2
      · cases g2; kernel_rfl
      · cases g2
    · cases h)

noncomputable def S_laws_toSpot : Spec := fun args => match args with
  | [.v (.agg xs0)] => withFs xs0 fun l0 => match l0 with
    | [x, y] => some [rA [x, y]]
    | _ => none
  | _ => none
theorem ok_laws_toSpot : SpecOK Try.prog 10 S_laws_toSpot :=
  auto_ok (Γ := []) mixed 12 ctx_nil ⟨Try.func10, by kernel_rfl, by kernel_rfl⟩ (by
    intro args r h
    unfold S_laws_toSpot at h
    split at h
    · obtain ⟨l0, e0, g0⟩ := withFs_spec h; clear h; subst e0
      split at g0
      · cases g0; kernel_rfl
      · cases g0
    · cases h)

noncomputable def S_impl_minor : Spec := fun args => match args with
  | [.v (.s (.c (.f .f32 a))), .v (.s (.c (.f .f32 b))), .v (.s (.c (.f .f32 c))), .v (.s (.c (.f .f32 d)))] => some [rF (minor a b c d)]
  | _ => none
theorem ok_impl_minor : SpecOK Try.prog 27 S_impl_minor :=
  auto_ok (Γ := []) mixed 12 ctx_nil ⟨Try.func27, by kernel_rfl, by kernel_rfl⟩ (by
    intro args r h
    unfold S_impl_minor at h
    split at h
    · cases h; kernel_rfl
    · cases h)

noncomputable def S_impl_TurnsLeft : Spec := fun args => match args with
  | [.v (.agg xs0), .v (.agg xs1), .v (.agg xs2)] => withFs xs0 fun l0 => withFs xs1 fun l1 => withFs xs2 fun l2 => match l0, l1, l2 with
    | [a0, a1], [b0, b1], [c0, c1] => some [rF (turnsLeft a0 a1 b0 b1 c0 c1)]
    | _, _, _ => none
  | _ => none
theorem ok_impl_TurnsLeft : SpecOK Try.prog 11 S_impl_TurnsLeft :=
  auto_ok (Γ := [(27, S_impl_minor)]) mixed 12 (ctx_cons ok_impl_minor ctx_nil) ⟨Try.func11, by kernel_rfl, by kernel_rfl⟩ (by
    intro args r h
    unfold S_impl_TurnsLeft at h
    split at h
    · obtain ⟨l0, e0, g0⟩ := withFs_spec h; clear h; subst e0
      obtain ⟨l1, e1, g1⟩ := withFs_spec g0; clear g0; subst e1
      obtain ⟨l2, e2, g2⟩ := withFs_spec g1; clear g1; subst e2
      split at g2
      · cases g2; kernel_rfl
      · cases g2
    · cases h)

noncomputable def S_laws_sameFloat : Spec := fun args => match args with
  | [.v (.s (.c (.g a))), .v (.s (.c (.g b)))] => some [rB (sameD a b)]
  | _ => none
theorem ok_laws_sameFloat : SpecOK Try.prog 12 S_laws_sameFloat :=
  auto_ok (Γ := []) mixed 12 ctx_nil ⟨Try.func12, by kernel_rfl, by kernel_rfl⟩ (by
    intro args r h
    unfold S_laws_sameFloat at h
    split at h
    · cases h; kernel_rfl
    · cases h)

noncomputable def S_laws_FnExactTurnsLeft : Spec := fun args => match args with
  | [.v (.agg xs0), .v (.agg xs1), .v (.agg xs2)] => withFs xs0 fun l0 => withFs xs1 fun l1 => withFs xs2 fun l2 => match l0, l1, l2 with
    | [a0, a1], [b0, b1], [c0, c1] => some [rB (bif !sameD (fwide (turnsLeft a0 a1 b0 b1 c0 c1)) (fwide (turnsLeft a0 a1 b0 b1 c0 c1)) then false else true)]
    | _, _, _ => none
  | _ => none
theorem ok_laws_FnExactTurnsLeft : SpecOK Try.prog 3 S_laws_FnExactTurnsLeft :=
  auto_ok (Γ := [(9, S_spec_TurnsLeft), (10, S_laws_toSpot), (11, S_impl_TurnsLeft), (12, S_laws_sameFloat)]) mixed 12 (ctx_cons ok_spec_TurnsLeft (ctx_cons ok_laws_toSpot (ctx_cons ok_impl_TurnsLeft (ctx_cons ok_laws_sameFloat ctx_nil)))) ⟨Try.func3, by kernel_rfl, by kernel_rfl⟩ (by
    intro args r h
    unfold S_laws_FnExactTurnsLeft at h
    split at h
    · obtain ⟨l0, e0, g0⟩ := withFs_spec h; clear h; subst e0
      obtain ⟨l1, e1, g1⟩ := withFs_spec g0; clear g0; subst e1
      obtain ⟨l2, e2, g2⟩ := withFs_spec g1; clear g1; subst e2
      split at g2
      · cases g2; kernel_rfl
      · cases g2
    · cases h)

noncomputable def S_spec_DetOf : Spec := fun args => match args with
  | [.v (.agg xs0)] => withFs xs0 fun l0 => match l0 with
    | [a, b, c, d, e, f, g, h, i] => some [rF (detOf a b c d e f g h i)]
    | _ => none
  | _ => none
theorem ok_spec_DetOf : SpecOK Try.prog 13 S_spec_DetOf :=
  auto_ok (Γ := [(26, S_spec_l05Two)]) mixed 12 (ctx_cons ok_spec_l05Two ctx_nil) ⟨Try.func13, by kernel_rfl, by kernel_rfl⟩ (by
    intro args r h
    unfold S_spec_DetOf at h
    split at h
    · obtain ⟨l0, e0, g0⟩ := withFs_spec h; clear h; subst e0
      split at g0
      · cases g0; kernel_rfl
      · cases g0
    · cases h)

noncomputable def S_laws_toMap : Spec := fun args => match args with
  | [.v (.agg xs0)] => withFs xs0 fun l0 => match l0 with
    | [a, b, c, d, e, f, g, h, i] => some [rA [a, b, c, d, e, f, g, h, i]]
    | _ => none
  | _ => none
theorem ok_laws_toMap : SpecOK Try.prog 14 S_laws_toMap :=
  auto_ok (Γ := []) mixed 12 ctx_nil ⟨Try.func14, by kernel_rfl, by kernel_rfl⟩ (by
    intro args r h
    unfold S_laws_toMap at h
    split at h
    · obtain ⟨l0, e0, g0⟩ := withFs_spec h; clear h; subst e0
      split at g0
      · cases g0; kernel_rfl
      · cases g0
    · cases h)

noncomputable def S_impl_DetOf : Spec := fun args => match args with
  | [.v (.agg xs0)] => withFs xs0 fun l0 => match l0 with
    | [a, b, c, d, e, f, g, h, i] => some [rF (detOf a b c d e f g h i)]
    | _ => none
  | _ => none
theorem ok_impl_DetOf : SpecOK Try.prog 15 S_impl_DetOf :=
  auto_ok (Γ := [(27, S_impl_minor)]) mixed 12 (ctx_cons ok_impl_minor ctx_nil) ⟨Try.func15, by kernel_rfl, by kernel_rfl⟩ (by
    intro args r h
    unfold S_impl_DetOf at h
    split at h
    · obtain ⟨l0, e0, g0⟩ := withFs_spec h; clear h; subst e0
      split at g0
      · cases g0; kernel_rfl
      · cases g0
    · cases h)

noncomputable def S_laws_FnExactDetOf : Spec := fun args => match args with
  | [.v (.agg xs0)] => withFs xs0 fun l0 => match l0 with
    | [a, b, c, d, e, f, g, h, i] => some [rB (bif !sameD (fwide (detOf a b c d e f g h i)) (fwide (detOf a b c d e f g h i)) then false else true)]
    | _ => none
  | _ => none
theorem ok_laws_FnExactDetOf : SpecOK Try.prog 4 S_laws_FnExactDetOf :=
  auto_ok (Γ := [(12, S_laws_sameFloat), (13, S_spec_DetOf), (14, S_laws_toMap), (15, S_impl_DetOf)]) mixed 12 (ctx_cons ok_laws_sameFloat (ctx_cons ok_spec_DetOf (ctx_cons ok_laws_toMap (ctx_cons ok_impl_DetOf ctx_nil)))) ⟨Try.func4, by kernel_rfl, by kernel_rfl⟩ (by
    intro args r h
    unfold S_laws_FnExactDetOf at h
    split at h
    · obtain ⟨l0, e0, g0⟩ := withFs_spec h; clear h; subst e0
      split at g0
      · cases g0; kernel_rfl
      · cases g0
    · cases h)

abbrev S_math_Float32bits : Spec := S_bits32
theorem ok_math_Float32bits : SpecOK Try.prog 39 S_math_Float32bits := ok_bits32 (fn := Try.f39) ⟨Try.func39, by kernel_rfl, by kernel_rfl, by kernel_rfl, by kernel_rfl⟩

abbrev S_spec_l01Same : Spec := S_sameN
theorem ok_spec_l01Same : SpecOK Try.prog 29 S_spec_l01Same := ok_sameN_of (func_sound (Γ := [(39, S_math_Float32bits)]) (ctx_cons ok_math_Float32bits ctx_nil) mixed 12 ⟨Try.func29, by kernel_rfl, by kernel_rfl⟩) (fun a b => by kernel_rfl)
noncomputable def S_spec_l01SamePoint : Spec := fun args => match args with
  | [.v (.agg xs0), .v (.agg xs1)] => withFs xs0 fun l0 => withFs xs1 fun l1 => match l0, l1 with
    | [a, b, c], [x, y, z] => some [rB (samePoint a b c x y z)]
    | _, _ => none
  | _ => none
theorem ok_spec_l01SamePoint : SpecOK Try.prog 38 S_spec_l01SamePoint :=
  auto_ok (Γ := [(29, S_spec_l01Same)]) mixed 12 (ctx_cons ok_spec_l01Same ctx_nil) ⟨Try.func38, by kernel_rfl, by kernel_rfl⟩ (by
    intro args r h
    unfold S_spec_l01SamePoint at h
    split at h
    · obtain ⟨l0, e0, g0⟩ := withFs_spec h; clear h; subst e0
      obtain ⟨l1, e1, g1⟩ := withFs_spec g0; clear g0; subst e1
      split at g1
      · cases g1; kernel_rfl
      · cases g1
    · cases h)

noncomputable def S_spec_SamePoint : Spec := fun args => match args with
  | [.v (.agg xs0), .v (.agg xs1)] => withFs xs0 fun l0 => withFs xs1 fun l1 => match l0, l1 with
    | [a, b, c], [x, y, z] => some [rB (samePoint a b c x y z)]
    | _, _ => none
  | _ => none
theorem ok_spec_SamePoint : SpecOK Try.prog 28 S_spec_SamePoint :=
  auto_ok (Γ := [(38, S_spec_l01SamePoint)]) mixed 12 (ctx_cons ok_spec_l01SamePoint ctx_nil) ⟨Try.func28, by kernel_rfl, by kernel_rfl⟩ (by
    intro args r h
    unfold S_spec_SamePoint at h
    split at h
    · obtain ⟨l0, e0, g0⟩ := withFs_spec h; clear h; subst e0
      obtain ⟨l1, e1, g1⟩ := withFs_spec g0; clear g0; subst e1
      split at g1
      · cases g1; kernel_rfl
      · cases g1
    · cases h)

noncomputable def S_spec_SameLamp : Spec := fun args => match args with
  | [.v (.agg xs0), .v (.agg xs1)] => withM [.f, .f, .f, .b, .f] xs0 fun l0 b0 i0 => withM [.f, .f, .f, .b, .f] xs1 fun l1 b1 i1 => match l0, b0, i0, l1, b1, i1 with
    | [a, b, c, t], [s], [], [x, y, z, w], [v], [] => some [rB (sameLamp a b c s t x y z v w)]
    | _, _, _, _, _, _ => none
  | _ => none
theorem ok_spec_SameLamp : SpecOK Try.prog 16 S_spec_SameLamp :=
  auto_ok (Γ := [(28, S_spec_SamePoint), (29, S_spec_l01Same)]) mixed 12 (ctx_cons ok_spec_SamePoint (ctx_cons ok_spec_l01Same ctx_nil)) ⟨Try.func16, by kernel_rfl, by kernel_rfl⟩ (by
    intro args r h
    unfold S_spec_SameLamp at h
    split at h
    · obtain ⟨l0, b0, i0, e0, g0⟩ := withM_spec h; clear h; subst e0
      obtain ⟨l1, b1, i1, e1, g1⟩ := withM_spec g0; clear g0; subst e1
      split at g1
      · cases g1; kernel_rfl
      · cases g1
    · cases h)

noncomputable def S_laws_toPoint : Spec := fun args => match args with
  | [.v (.agg xs0)] => withFs xs0 fun l0 => match l0 with
    | [x, y, z] => some [rA [x, y, z]]
    | _ => none
  | _ => none
theorem ok_laws_toPoint : SpecOK Try.prog 30 S_laws_toPoint :=
  auto_ok (Γ := []) mixed 12 ctx_nil ⟨Try.func30, by kernel_rfl, by kernel_rfl⟩ (by
    intro args r h
    unfold S_laws_toPoint at h
    split at h
    · obtain ⟨l0, e0, g0⟩ := withFs_spec h; clear h; subst e0
      split at g0
      · cases g0; kernel_rfl
      · cases g0
    · cases h)

noncomputable def S_laws_toLamp : Spec := fun args => match args with
  | [.v (.agg xs0)] => withM [.f, .f, .f, .b, .f] xs0 fun l0 b0 i0 => match l0, b0, i0 with
    | [a, b, c, t], [s], [] => some [.agg [.c (.f .f32 a), .c (.f .f32 b), .c (.f .f32 c), .c (.b s), .c (.f .f32 t)]]
    | _, _, _ => none
  | _ => none
theorem ok_laws_toLamp : SpecOK Try.prog 17 S_laws_toLamp :=
  auto_ok (Γ := [(30, S_laws_toPoint)]) mixed 12 (ctx_cons ok_laws_toPoint ctx_nil) ⟨Try.func17, by kernel_rfl, by kernel_rfl⟩ (by
    intro args r h
    unfold S_laws_toLamp at h
    split at h
    · obtain ⟨l0, b0, i0, e0, g0⟩ := withM_spec h; clear h; subst e0
      split at g0
      · cases g0; kernel_rfl
      · cases g0
    · cases h)

abbrev S_impl_SameNumber : Spec := S_sameN
theorem ok_impl_SameNumber : SpecOK Try.prog 32 S_impl_SameNumber := ok_sameN_of (func_sound (Γ := [(39, S_math_Float32bits)]) (ctx_cons ok_math_Float32bits ctx_nil) mixed 12 ⟨Try.func32, by kernel_rfl, by kernel_rfl⟩) (fun a b => by kernel_rfl)
noncomputable def S_impl_SamePoint : Spec := fun args => match args with
  | [.v (.agg xs0), .v (.agg xs1)] => withFs xs0 fun l0 => withFs xs1 fun l1 => match l0, l1 with
    | [a, b, c], [x, y, z] => some [rB (samePoint a b c x y z)]
    | _, _ => none
  | _ => none
theorem ok_impl_SamePoint : SpecOK Try.prog 31 S_impl_SamePoint :=
  auto_ok (Γ := [(32, S_impl_SameNumber)]) mixed 12 (ctx_cons ok_impl_SameNumber ctx_nil) ⟨Try.func31, by kernel_rfl, by kernel_rfl⟩ (by
    intro args r h
    unfold S_impl_SamePoint at h
    split at h
    · obtain ⟨l0, e0, g0⟩ := withFs_spec h; clear h; subst e0
      obtain ⟨l1, e1, g1⟩ := withFs_spec g0; clear g0; subst e1
      split at g1
      · cases g1; kernel_rfl
      · cases g1
    · cases h)

noncomputable def S_impl_SameLamp : Spec := fun args => match args with
  | [.v (.agg xs0), .v (.agg xs1)] => withM [.f, .f, .f, .b, .f] xs0 fun l0 b0 i0 => withM [.f, .f, .f, .b, .f] xs1 fun l1 b1 i1 => match l0, b0, i0, l1, b1, i1 with
    | [a, b, c, t], [s], [], [x, y, z, w], [v], [] => some [rB (sameLamp a b c s t x y z v w)]
    | _, _, _, _, _, _ => none
  | _ => none
theorem ok_impl_SameLamp : SpecOK Try.prog 18 S_impl_SameLamp :=
  auto_ok (Γ := [(31, S_impl_SamePoint), (32, S_impl_SameNumber)]) mixed 12 (ctx_cons ok_impl_SamePoint (ctx_cons ok_impl_SameNumber ctx_nil)) ⟨Try.func18, by kernel_rfl, by kernel_rfl⟩ (by
    intro args r h
    unfold S_impl_SameLamp at h
    split at h
    · obtain ⟨l0, b0, i0, e0, g0⟩ := withM_spec h; clear h; subst e0
      obtain ⟨l1, b1, i1, e1, g1⟩ := withM_spec g0; clear g0; subst e1
      split at g1
      · cases g1; kernel_rfl
      · cases g1
    · cases h)

noncomputable def S_laws_FnExactSameLamp : Spec := fun args => match args with
  | [.v (.agg xs0), .v (.agg xs1)] => withM [.f, .f, .f, .b, .f] xs0 fun l0 b0 i0 => withM [.f, .f, .f, .b, .f] xs1 fun l1 b1 i1 => match l0, b0, i0, l1, b1, i1 with
    | [a, b, c, t], [s], [], [x, y, z, w], [v], [] => some [rB (bif !(sameLamp a b c s t x y z v w == sameLamp a b c s t x y z v w) then false else true)]
    | _, _, _, _, _, _ => none
  | _ => none
theorem ok_laws_FnExactSameLamp : SpecOK Try.prog 5 S_laws_FnExactSameLamp :=
  auto_ok (Γ := [(16, S_spec_SameLamp), (17, S_laws_toLamp), (18, S_impl_SameLamp)]) mixed 12 (ctx_cons ok_spec_SameLamp (ctx_cons ok_laws_toLamp (ctx_cons ok_impl_SameLamp ctx_nil))) ⟨Try.func5, by kernel_rfl, by kernel_rfl⟩ (by
    intro args r h
    unfold S_laws_FnExactSameLamp at h
    split at h
    · obtain ⟨l0, b0, i0, e0, g0⟩ := withM_spec h; clear h; subst e0
      obtain ⟨l1, b1, i1, e1, g1⟩ := withM_spec g0; clear g0; subst e1
      split at g1
      · cases g1; kernel_rfl
      · cases g1
    · cases h)

noncomputable def S_spec_AreaOfFour : Spec := fun args => match args with
  | [.v (.agg xs0)] => withFs xs0 fun l0 => match l0 with
    | [a, b, c, d, e, f, g, h] => some [rF (areaOfFour a b c d e f g h)]
    | _ => none
  | _ => none
theorem ok_spec_AreaOfFour : SpecOK Try.prog 19 S_spec_AreaOfFour :=
  auto_ok (Γ := [(26, S_spec_l05Two)]) mixed 12 (ctx_cons ok_spec_l05Two ctx_nil) ⟨Try.func19, by kernel_rfl, by kernel_rfl⟩ (by
    intro args r h
    unfold S_spec_AreaOfFour at h
    split at h
    · obtain ⟨l0, e0, g0⟩ := withFs_spec h; clear h; subst e0
      split at g0
      · cases g0; kernel_rfl
      · cases g0
    · cases h)

noncomputable def S_laws_toSpotA4 : Spec := fun args => match args with
  | [.v (.agg xs0)] => withFs xs0 fun l0 => match l0 with
    | [a, b, c, d, e, f, g, h] => some [rA [a, b, c, d, e, f, g, h]]
    | _ => none
  | _ => none
theorem ok_laws_toSpotA4 : SpecOK Try.prog 20 S_laws_toSpotA4 :=
  auto_ok (Γ := [(10, S_laws_toSpot)]) mixed 12 (ctx_cons ok_laws_toSpot ctx_nil) ⟨Try.func20, by kernel_rfl, by kernel_rfl⟩ (by
    intro args r h
    unfold S_laws_toSpotA4 at h
    split at h
    · obtain ⟨l0, e0, g0⟩ := withFs_spec h; clear h; subst e0
      split at g0
      · cases g0; kernel_rfl
      · cases g0
    · cases h)

noncomputable def S_impl_AreaOfFour : Spec := fun args => match args with
  | [.v (.agg xs0)] => withFs xs0 fun l0 => match l0 with
    | [a, b, c, d, e, f, g, h] => some [rF (areaOfFour a b c d e f g h)]
    | _ => none
  | _ => none
theorem ok_impl_AreaOfFour : SpecOK Try.prog 21 S_impl_AreaOfFour :=
  auto_ok (Γ := [(27, S_impl_minor)]) mixed 12 (ctx_cons ok_impl_minor ctx_nil) ⟨Try.func21, by kernel_rfl, by kernel_rfl⟩ (by
    intro args r h
    unfold S_impl_AreaOfFour at h
    split at h
    · obtain ⟨l0, e0, g0⟩ := withFs_spec h; clear h; subst e0
      split at g0
      · cases g0; kernel_rfl
      · cases g0
    · cases h)

noncomputable def S_laws_FnExactAreaOfFour : Spec := fun args => match args with
  | [.v (.agg xs0)] => withFs xs0 fun l0 => match l0 with
    | [a, b, c, d, e, f, g, h] => some [rB (bif !sameD (fwide (areaOfFour a b c d e f g h)) (fwide (areaOfFour a b c d e f g h)) then false else true)]
    | _ => none
  | _ => none
theorem ok_laws_FnExactAreaOfFour : SpecOK Try.prog 6 S_laws_FnExactAreaOfFour :=
  auto_ok (Γ := [(12, S_laws_sameFloat), (19, S_spec_AreaOfFour), (20, S_laws_toSpotA4), (21, S_impl_AreaOfFour)]) mixed 12 (ctx_cons ok_laws_sameFloat (ctx_cons ok_spec_AreaOfFour (ctx_cons ok_laws_toSpotA4 (ctx_cons ok_impl_AreaOfFour ctx_nil)))) ⟨Try.func6, by kernel_rfl, by kernel_rfl⟩ (by
    intro args r h
    unfold S_laws_FnExactAreaOfFour at h
    split at h
    · obtain ⟨l0, e0, g0⟩ := withFs_spec h; clear h; subst e0
      split at g0
      · cases g0; kernel_rfl
      · cases g0
    · cases h)

noncomputable def S_spec_l05Same : Spec := fun args => match args with
  | [.ref xs0, .ref xs1] => withFs xs0 fun l0 => withFs xs1 fun l1 => match l0, l1 with
    | [a, b, c, d, e, f, g, h, i], [a', b', c', d', e', f', g', h', i'] => some [rB (sameMap a b c d e f g h i a' b' c' d' e' f' g' h' i')]
    | _, _ => none
  | _ => none
theorem ok_spec_l05Same : SpecOK Try.prog 33 S_spec_l05Same :=
  auto_ok (Γ := [(29, S_spec_l01Same)]) mixed 12 (ctx_cons ok_spec_l01Same ctx_nil) ⟨Try.func33, by kernel_rfl, by kernel_rfl⟩ (by
    intro args r h
    unfold S_spec_l05Same at h
    split at h
    · obtain ⟨l0, e0, g0⟩ := withFs_spec h; clear h; subst e0
      obtain ⟨l1, e1, g1⟩ := withFs_spec g0; clear g0; subst e1
      split at g1
      · cases g1; kernel_rfl
      · cases g1
    · cases h)

noncomputable def S_spec_SameMap : Spec := fun args => match args with
  | [.v (.agg xs0), .v (.agg xs1)] => withFs xs0 fun l0 => withFs xs1 fun l1 => match l0, l1 with
    | [a, b, c, d, e, f, g, h, i], [a', b', c', d', e', f', g', h', i'] => some [rB (sameMap a b c d e f g h i a' b' c' d' e' f' g' h' i')]
    | _, _ => none
  | _ => none
theorem ok_spec_SameMap : SpecOK Try.prog 22 S_spec_SameMap :=
  auto_ok (Γ := [(33, S_spec_l05Same)]) mixed 12 (ctx_cons ok_spec_l05Same ctx_nil) ⟨Try.func22, by kernel_rfl, by kernel_rfl⟩ (by
    intro args r h
    unfold S_spec_SameMap at h
    split at h
    · obtain ⟨l0, e0, g0⟩ := withFs_spec h; clear h; subst e0
      obtain ⟨l1, e1, g1⟩ := withFs_spec g0; clear g0; subst e1
      split at g1
      · cases g1; kernel_rfl
      · cases g1
    · cases h)

noncomputable def S_slices_EqualFunc_float32_float32_float32_float32 : Spec := funcSpec Try.prog [(32, S_impl_SameNumber)] 14 Try.f34
theorem ok_slices_EqualFunc_float32_float32_float32_float32 : SpecOK Try.prog 34 S_slices_EqualFunc_float32_float32_float32_float32 := func_sound (ctx_cons ok_impl_SameNumber ctx_nil) mixed 14 ⟨Try.func34, by kernel_rfl, by kernel_rfl⟩

noncomputable def S_impl_SameMap : Spec := fun args => match args with
  | [.v (.agg xs0), .v (.agg xs1)] => withFs xs0 fun l0 => withFs xs1 fun l1 => match l0, l1 with
    | [a, b, c, d, e, f, g, h, i], [a', b', c', d', e', f', g', h', i'] => some [rB (sameMap a b c d e f g h i a' b' c' d' e' f' g' h' i')]
    | _, _ => none
  | _ => none
theorem ok_impl_SameMap : SpecOK Try.prog 23 S_impl_SameMap :=
  auto_ok (Γ := [(32, S_impl_SameNumber), (34, S_slices_EqualFunc_float32_float32_float32_float32)]) mixed 12 (ctx_cons ok_impl_SameNumber (ctx_cons ok_slices_EqualFunc_float32_float32_float32_float32 ctx_nil)) ⟨Try.func23, by kernel_rfl, by kernel_rfl⟩ (by
    intro args r h
    unfold S_impl_SameMap at h
    split at h
    · obtain ⟨l0, e0, g0⟩ := withFs_spec h; clear h; subst e0
      obtain ⟨l1, e1, g1⟩ := withFs_spec g0; clear g0; subst e1
      split at g1
      · cases g1; kernel_rfl
      · cases g1
    · cases h)

noncomputable def S_laws_FnExactSameMap : Spec := fun args => match args with
  | [.v (.agg xs0), .v (.agg xs1)] => withFs xs0 fun l0 => withFs xs1 fun l1 => match l0, l1 with
    | [a, b, c, d, e, f, g, h, i], [a', b', c', d', e', f', g', h', i'] => some [rB (bif !(sameMap a b c d e f g h i a' b' c' d' e' f' g' h' i' == sameMap a b c d e f g h i a' b' c' d' e' f' g' h' i') then false else true)]
    | _, _ => none
  | _ => none
theorem ok_laws_FnExactSameMap : SpecOK Try.prog 7 S_laws_FnExactSameMap :=
  auto_ok (Γ := [(14, S_laws_toMap), (22, S_spec_SameMap), (23, S_impl_SameMap)]) mixed 12 (ctx_cons ok_laws_toMap (ctx_cons ok_spec_SameMap (ctx_cons ok_impl_SameMap ctx_nil))) ⟨Try.func7, by kernel_rfl, by kernel_rfl⟩ (by
    intro args r h
    unfold S_laws_FnExactSameMap at h
    split at h
    · obtain ⟨l0, e0, g0⟩ := withFs_spec h; clear h; subst e0
      obtain ⟨l1, e1, g1⟩ := withFs_spec g0; clear g0; subst e1
      split at g1
      · cases g1; kernel_rfl
      · cases g1
    · cases h)

noncomputable def S_spec_l01Plain : Spec := fun args => match args with
  | [.v (.s (.c (.f .f32 a)))] => some [rB (isPlain a)]
  | _ => none
theorem ok_spec_l01Plain : SpecOK Try.prog 46 S_spec_l01Plain :=
  auto_ok (Γ := []) mixed 12 ctx_nil ⟨Try.func46, by kernel_rfl, by kernel_rfl⟩ (by
    intro args r h
    unfold S_spec_l01Plain at h
    split at h
    · cases h; kernel_rfl
    · cases h)

noncomputable def S_spec_l05Plains : Spec := fun args => match args with
  | [.ref xs0] => withFs xs0 fun l0 => match l0 with
    | [a, b, c, d, e, f, g, h, i] => some [rB (allL isPlain [a, b, c, d, e, f, g, h, i])]
    | _ => none
  | _ => none
theorem ok_spec_l05Plains : SpecOK Try.prog 40 S_spec_l05Plains :=
  auto_ok (Γ := [(46, S_spec_l01Plain)]) mixed 12 (ctx_cons ok_spec_l01Plain ctx_nil) ⟨Try.func40, by kernel_rfl, by kernel_rfl⟩ (by
    intro args r h
    unfold S_spec_l05Plains at h
    split at h
    · obtain ⟨l0, e0, g0⟩ := withFs_spec h; clear h; subst e0
      split at g0
      · cases g0; kernel_rfl
      · cases g0
    · cases h)

noncomputable def S_spec_l01Small : Spec := fun args => match args with
  | [.v (.s (.c (.f .f32 a)))] => some [rB (small a)]
  | _ => none
theorem ok_spec_l01Small : SpecOK Try.prog 41 S_spec_l01Small :=
  auto_ok (Γ := []) mixed 12 ctx_nil ⟨Try.func41, by kernel_rfl, by kernel_rfl⟩ (by
    intro args r h
    unfold S_spec_l01Small at h
    split at h
    · cases h; kernel_rfl
    · cases h)

noncomputable def S_spec_l05Ok : Spec := fun args => match args with
  | [.ref xs0] => withFs xs0 fun l0 => match l0 with
    | [a, b, c, d, e, f, g, h, i] => some [rB (validMap a b c d e f g h i)]
    | _ => none
  | _ => none
theorem ok_spec_l05Ok : SpecOK Try.prog 35 S_spec_l05Ok :=
  auto_ok (Γ := [(13, S_spec_DetOf), (40, S_spec_l05Plains), (41, S_spec_l01Small)]) mixed 12 (ctx_cons ok_spec_DetOf (ctx_cons ok_spec_l05Plains (ctx_cons ok_spec_l01Small ctx_nil))) ⟨Try.func35, by kernel_rfl, by kernel_rfl⟩ (by
    intro args r h
    unfold S_spec_l05Ok at h
    split at h
    · obtain ⟨l0, e0, g0⟩ := withFs_spec h; clear h; subst e0
      split at g0
      · cases g0; kernel_rfl
      · cases g0
    · cases h)

noncomputable def S_spec_ValidMap : Spec := fun args => match args with
  | [.v (.agg xs0)] => withFs xs0 fun l0 => match l0 with
    | [a, b, c, d, e, f, g, h, i] => some [rB (validMap a b c d e f g h i)]
    | _ => none
  | _ => none
theorem ok_spec_ValidMap : SpecOK Try.prog 24 S_spec_ValidMap :=
  auto_ok (Γ := [(35, S_spec_l05Ok)]) mixed 12 (ctx_cons ok_spec_l05Ok ctx_nil) ⟨Try.func24, by kernel_rfl, by kernel_rfl⟩ (by
    intro args r h
    unfold S_spec_ValidMap at h
    split at h
    · obtain ⟨l0, e0, g0⟩ := withFs_spec h; clear h; subst e0
      split at g0
      · cases g0; kernel_rfl
      · cases g0
    · cases h)

noncomputable def S_impl_IsPlain : Spec := fun args => match args with
  | [.v (.s (.c (.f .f32 a)))] => some [rB (isPlain a)]
  | _ => none
theorem ok_impl_IsPlain : SpecOK Try.prog 44 S_impl_IsPlain :=
  auto_ok (Γ := []) mixed 12 ctx_nil ⟨Try.func44, by kernel_rfl, by kernel_rfl⟩ (by
    intro args r h
    unfold S_impl_IsPlain at h
    split at h
    · cases h; kernel_rfl
    · cases h)

noncomputable def S_impl_arePlain_1 : Spec := fun args => match args with
  | [.v (.s (.c (.f .f32 a)))] => some [rB (!isPlain a)]
  | _ => none
theorem ok_impl_arePlain_1 : SpecOK Try.prog 43 S_impl_arePlain_1 :=
  auto_ok (Γ := [(44, S_impl_IsPlain)]) mixed 12 (ctx_cons ok_impl_IsPlain ctx_nil) ⟨Try.func43, by kernel_rfl, by kernel_rfl⟩ (by
    intro args r h
    unfold S_impl_arePlain_1 at h
    split at h
    · cases h; kernel_rfl
    · cases h)

noncomputable def S_slices_IndexFunc_float32_float32 : Spec := funcSpec Try.prog [(43, S_impl_arePlain_1)] 14 Try.f47
theorem ok_slices_IndexFunc_float32_float32 : SpecOK Try.prog 47 S_slices_IndexFunc_float32_float32 := func_sound (ctx_cons ok_impl_arePlain_1 ctx_nil) mixed 14 ⟨Try.func47, by kernel_rfl, by kernel_rfl⟩

noncomputable def S_slices_ContainsFunc_float32_float32 : Spec := funcSpec Try.prog [(47, S_slices_IndexFunc_float32_float32), (43, S_impl_arePlain_1)] 14 Try.f42
theorem ok_slices_ContainsFunc_float32_float32 : SpecOK Try.prog 42 S_slices_ContainsFunc_float32_float32 := func_sound (ctx_cons ok_slices_IndexFunc_float32_float32 (ctx_cons ok_impl_arePlain_1 ctx_nil)) mixed 14 ⟨Try.func42, by kernel_rfl, by kernel_rfl⟩

noncomputable def S_impl_arePlain : Spec := fun args => match args with
  | [.sl xs n] => withFs xs fun l => match n, l with
    | 1, [x0] => some [rB (allF isPlain [x0])]
    | 2, [x0, x1] => some [rB (allF isPlain [x0, x1])]
    | 3, [x0, x1, x2] => some [rB (allF isPlain [x0, x1, x2])]
    | 4, [x0, x1, x2, x3] => some [rB (allF isPlain [x0, x1, x2, x3])]
    | 5, [x0, x1, x2, x3, x4] => some [rB (allF isPlain [x0, x1, x2, x3, x4])]
    | 9, [x0, x1, x2, x3, x4, x5, x6, x7, x8] => some [rB (allF isPlain [x0, x1, x2, x3, x4, x5, x6, x7, x8])]
    | _, _ => none
  | _ => none
theorem ok_impl_arePlain : SpecOK Try.prog 36 S_impl_arePlain :=
  auto_ok (Γ := [(42, S_slices_ContainsFunc_float32_float32), (43, S_impl_arePlain_1)]) mixed 14 (ctx_cons ok_slices_ContainsFunc_float32_float32 (ctx_cons ok_impl_arePlain_1 ctx_nil)) ⟨Try.func36, by kernel_rfl, by kernel_rfl⟩ (by
    intro args r h
    unfold S_impl_arePlain at h
    split at h
    · obtain ⟨l0, e0, g0⟩ := withFs_spec h; clear h; subst e0
      split at g0
      · rename_i x0; cases g0
        have e : funcSpec Try.prog [(42, S_slices_ContainsFunc_float32_float32), (43, S_impl_arePlain_1)] 14 Try.f36 [.sl (fsL [x0]) 1] = some [rB (!decide (idxB 0 [!isPlain x0] ≥ 0))] := by kernel_rfl
        rw [e, not_idxB]; rfl
      · rename_i x0 x1; cases g0
        have e : funcSpec Try.prog [(42, S_slices_ContainsFunc_float32_float32), (43, S_impl_arePlain_1)] 14 Try.f36 [.sl (fsL [x0, x1]) 2] = some [rB (!decide (idxB 0 [!isPlain x0, !isPlain x1] ≥ 0))] := by kernel_rfl
        rw [e, not_idxB]; rfl
      · rename_i x0 x1 x2; cases g0
        have e : funcSpec Try.prog [(42, S_slices_ContainsFunc_float32_float32), (43, S_impl_arePlain_1)] 14 Try.f36 [.sl (fsL [x0, x1, x2]) 3] = some [rB (!decide (idxB 0 [!isPlain x0, !isPlain x1, !isPlain x2] ≥ 0))] := by kernel_rfl
        rw [e, not_idxB]; rfl
      · rename_i x0 x1 x2 x3; cases g0
        have e : funcSpec Try.prog [(42, S_slices_ContainsFunc_float32_float32), (43, S_impl_arePlain_1)] 14 Try.f36 [.sl (fsL [x0, x1, x2, x3]) 4] = some [rB (!decide (idxB 0 [!isPlain x0, !isPlain x1, !isPlain x2, !isPlain x3] ≥ 0))] := by kernel_rfl
        rw [e, not_idxB]; rfl
      · rename_i x0 x1 x2 x3 x4; cases g0
        have e : funcSpec Try.prog [(42, S_slices_ContainsFunc_float32_float32), (43, S_impl_arePlain_1)] 14 Try.f36 [.sl (fsL [x0, x1, x2, x3, x4]) 5] = some [rB (!decide (idxB 0 [!isPlain x0, !isPlain x1, !isPlain x2, !isPlain x3, !isPlain x4] ≥ 0))] := by kernel_rfl
        rw [e, not_idxB]; rfl
      · rename_i x0 x1 x2 x3 x4 x5 x6 x7 x8; cases g0
        have e : funcSpec Try.prog [(42, S_slices_ContainsFunc_float32_float32), (43, S_impl_arePlain_1)] 14 Try.f36 [.sl (fsL [x0, x1, x2, x3, x4, x5, x6, x7, x8]) 9] = some [rB (!decide (idxB 0 [!isPlain x0, !isPlain x1, !isPlain x2, !isPlain x3, !isPlain x4, !isPlain x5, !isPlain x6, !isPlain x7, !isPlain x8] ≥ 0))] := by kernel_rfl
        rw [e, not_idxB]; rfl
      · cases g0
    · cases h)

abbrev S_math_Float64frombits : Spec := S_from64
theorem ok_math_Float64frombits : SpecOK Try.prog 49 S_math_Float64frombits := ok_from64 (fn := Try.f49) ⟨Try.func49, by kernel_rfl, by kernel_rfl, by kernel_rfl, by kernel_rfl⟩

abbrev S_math_Float64bits : Spec := S_bits64
theorem ok_math_Float64bits : SpecOK Try.prog 50 S_math_Float64bits := ok_bits64 (fn := Try.f50) ⟨Try.func50, by kernel_rfl, by kernel_rfl, by kernel_rfl, by kernel_rfl⟩

abbrev S_math_Abs : Spec := S_abs
theorem ok_math_Abs : SpecOK Try.prog 48 S_math_Abs := ok_abs_of (func_sound (Γ := [(50, S_math_Float64bits), (49, S_math_Float64frombits)]) (ctx_cons ok_math_Float64bits (ctx_cons ok_math_Float64frombits ctx_nil)) mixed 12 ⟨Try.func48, by kernel_rfl, by kernel_rfl⟩) (fun b => by kernel_rfl)
noncomputable def S_impl_size : Spec := fun args => match args with
  | [.v (.s (.c (.f .f32 a)))] => some [rF (nabs a)]
  | _ => none
theorem ok_impl_size : SpecOK Try.prog 45 S_impl_size :=
  auto_ok (Γ := [(48, S_math_Abs)]) mixed 12 (ctx_cons ok_math_Abs ctx_nil) ⟨Try.func45, by kernel_rfl, by kernel_rfl⟩ (by
    intro args r h
    unfold S_impl_size at h
    split at h
    · cases h; kernel_rfl
    · cases h)

noncomputable def S_impl_isSmall : Spec := fun args => match args with
  | [.v (.s (.c (.f .f32 a)))] => some [rB (small a)]
  | _ => none
theorem ok_impl_isSmall : SpecOK Try.prog 37 S_impl_isSmall :=
  auto_ok (Γ := [(45, S_impl_size)]) mixed 12 (ctx_cons ok_impl_size ctx_nil) ⟨Try.func37, by kernel_rfl, by kernel_rfl⟩ (by
    intro args r h
    unfold S_impl_isSmall at h
    split at h
    · rename_i a; cases h; exact (show _ = some [rB (!fge .f32 (nabs a) 897581056)] by kernel_rfl).trans (congrArg (fun b => some [rB b]) (small_eq a))
    · cases h)

noncomputable def S_impl_ValidMap : Spec := fun args => match args with
  | [.v (.agg xs0)] => withFs xs0 fun l0 => match l0 with
    | [a, b, c, d, e, f, g, h, i] => some [rB (bif allF isPlain [a, b, c, d, e, f, g, h, i] then !small (detOf a b c d e f g h i) else false)]
    | _ => none
  | _ => none
theorem ok_impl_ValidMap : SpecOK Try.prog 25 S_impl_ValidMap :=
  auto_ok (Γ := [(15, S_impl_DetOf), (36, S_impl_arePlain), (37, S_impl_isSmall)]) mixed 12 (ctx_cons ok_impl_DetOf (ctx_cons ok_impl_arePlain (ctx_cons ok_impl_isSmall ctx_nil))) ⟨Try.func25, by kernel_rfl, by kernel_rfl⟩ (by
    intro args r h
    unfold S_impl_ValidMap at h
    split at h
    · obtain ⟨l0, e0, g0⟩ := withFs_spec h; clear h; subst e0
      split at g0
      · cases g0; kernel_rfl
      · cases g0
    · cases h)

noncomputable def S_laws_FnExactValidMap : Spec := fun args => match args with
  | [.v (.agg xs0)] => withFs xs0 fun l0 => match l0 with
    | [a, b, c, d, e, f, g, h, i] => some [rB (bif !((bif allF isPlain [a, b, c, d, e, f, g, h, i] then !small (detOf a b c d e f g h i) else false) == validMap a b c d e f g h i) then false else true)]
    | _ => none
  | _ => none
theorem ok_laws_FnExactValidMap : SpecOK Try.prog 8 S_laws_FnExactValidMap :=
  auto_ok (Γ := [(14, S_laws_toMap), (24, S_spec_ValidMap), (25, S_impl_ValidMap)]) mixed 12 (ctx_cons ok_laws_toMap (ctx_cons ok_spec_ValidMap (ctx_cons ok_impl_ValidMap ctx_nil))) ⟨Try.func8, by kernel_rfl, by kernel_rfl⟩ (by
    intro args r h
    unfold S_laws_FnExactValidMap at h
    split at h
    · obtain ⟨l0, e0, g0⟩ := withFs_spec h; clear h; subst e0
      split at g0
      · cases g0; kernel_rfl
      · cases g0
    · cases h)

end Go.Proofs.Ytiemjpnekapkhaa
