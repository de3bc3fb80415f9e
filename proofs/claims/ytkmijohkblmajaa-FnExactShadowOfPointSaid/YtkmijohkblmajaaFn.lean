/- Contracts of the functions that the laws of this seat reach. -/
import Derived.Test.YtkmijohkblmajaaMod
import Derived.Test.YtkmijohkblmajaaChecked
namespace Go.Proofs.Ytkmijohkblmajaa
open Go Go.RowKit
set_option maxRecDepth 20000
set_option linter.all false
theorem mixed : Try.prog.follows .mixedOrders = true := by kernel_rfl
noncomputable def S_laws_toPoint : Spec := fun args => match args with
  | [.v (.agg xs0)] => withFs xs0 fun l0 => match l0 with
    | [x, y, z] => some [rA [x, y, z]]
    | _ => none
  | _ => none
theorem ok_laws_toPoint : SpecOK Try.prog 27 S_laws_toPoint :=
  auto_ok (Γ := []) mixed 12 ctx_nil ⟨Try.func27, by kernel_rfl, by kernel_rfl⟩ (by
    intro args r h
    unfold S_laws_toPoint at h
    split at h
    · obtain ⟨l0, e0, g0⟩ := withFs_spec h; clear h; subst e0
      split at g0
      · cases g0; kernel_rfl
      · cases g0
    · cases h)

noncomputable def S_laws_toPlane : Spec := fun args => match args with
  | [.v (.agg xs0)] => withFs xs0 fun l0 => match l0 with
    | [n, m, o, d] => some [rA [n, m, o, d]]
    | _ => none
  | _ => none
theorem ok_laws_toPlane : SpecOK Try.prog 22 S_laws_toPlane :=
  auto_ok (Γ := [(27, S_laws_toPoint)]) mixed 12 (ctx_cons ok_laws_toPoint ctx_nil) ⟨Try.func22, by kernel_rfl, by kernel_rfl⟩ (by
    intro args r h
    unfold S_laws_toPlane at h
    split at h
    · obtain ⟨l0, e0, g0⟩ := withFs_spec h; clear h; subst e0
      split at g0
      · cases g0; kernel_rfl
      · cases g0
    · cases h)

noncomputable def S_laws_sameFloat : Spec := fun args => match args with
  | [.v (.s (.c (.g a))), .v (.s (.c (.g b)))] => some [rB (sameD a b)]
  | _ => none
theorem ok_laws_sameFloat : SpecOK Try.prog 50 S_laws_sameFloat :=
  auto_ok (Γ := []) mixed 12 ctx_nil ⟨Try.func50, by kernel_rfl, by kernel_rfl⟩ (by
    intro args r h
    unfold S_laws_sameFloat at h
    split at h
    · cases h; kernel_rfl
    · cases h)

noncomputable def S_laws_eqPoint : Spec := fun args => match args with
  | [.v (.agg xs0), .v (.agg xs1)] => withFs xs0 fun l0 => withFs xs1 fun l1 => match l0, l1 with
    | [a, b, c], [x, y, z] => some [rB (allC [sameD (fwide a) (fwide x), sameD (fwide b) (fwide y), sameD (fwide c) (fwide z)])]
    | _, _ => none
  | _ => none
theorem ok_laws_eqPoint : SpecOK Try.prog 24 S_laws_eqPoint :=
  auto_ok (Γ := [(50, S_laws_sameFloat)]) mixed 12 (ctx_cons ok_laws_sameFloat ctx_nil) ⟨Try.func24, by kernel_rfl, by kernel_rfl⟩ (by
    intro args r h
    unfold S_laws_eqPoint at h
    split at h
    · obtain ⟨l0, e0, g0⟩ := withFs_spec h; clear h; subst e0
      obtain ⟨l1, e1, g1⟩ := withFs_spec g0; clear g0; subst e1
      split at g1
      · cases g1; kernel_rfl
      · cases g1
    · cases h)

noncomputable def S_spec_l01Plain : Spec := fun args => match args with
  | [.v (.s (.c (.f .f32 a)))] => some [rB (isPlain a)]
  | _ => none
theorem ok_spec_l01Plain : SpecOK Try.prog 165 S_spec_l01Plain :=
  auto_ok (Γ := []) mixed 12 ctx_nil ⟨Try.func165, by kernel_rfl, by kernel_rfl⟩ (by
    intro args r h
    unfold S_spec_l01Plain at h
    split at h
    · cases h; kernel_rfl
    · cases h)

noncomputable def S_spec_l01Point : Spec := fun args => match args with
  | [.v (.agg xs0)] => withFs xs0 fun l0 => match l0 with
    | [a, b, c] => some [rB (ptOK a b c)]
    | _ => none
  | _ => none
theorem ok_spec_l01Point : SpecOK Try.prog 98 S_spec_l01Point :=
  auto_ok (Γ := [(165, S_spec_l01Plain)]) mixed 12 (ctx_cons ok_spec_l01Plain ctx_nil) ⟨Try.func98, by kernel_rfl, by kernel_rfl⟩ (by
    intro args r h
    unfold S_spec_l01Point at h
    split at h
    · obtain ⟨l0, e0, g0⟩ := withFs_spec h; clear h; subst e0
      split at g0
      · cases g0; kernel_rfl
      · cases g0
    · cases h)

noncomputable def S_spec_DotOf : Spec := fun args => match args with
  | [.v (.agg xs0), .v (.agg xs1)] => withFs xs0 fun l0 => withFs xs1 fun l1 => match l0, l1 with
    | [a, b, c], [x, y, z] => some [rF (dot a b c x y z)]
    | _, _ => none
  | _ => none
theorem ok_spec_DotOf : SpecOK Try.prog 102 S_spec_DotOf :=
  auto_ok (Γ := []) mixed 12 ctx_nil ⟨Try.func102, by kernel_rfl, by kernel_rfl⟩ (by
    intro args r h
    unfold S_spec_DotOf at h
    split at h
    · obtain ⟨l0, e0, g0⟩ := withFs_spec h; clear h; subst e0
      obtain ⟨l1, e1, g1⟩ := withFs_spec g0; clear g0; subst e1
      split at g1
      · cases g1; kernel_rfl
      · cases g1
    · cases h)

abbrev S_math_sqrt : Spec := S_sqrt
theorem ok_math_sqrt : SpecOK Try.prog 206 S_math_sqrt := ok_sqrt (fn := Try.f206) ⟨Try.func206, by kernel_rfl, by kernel_rfl, by kernel_rfl, by kernel_rfl⟩

noncomputable def S_math_Sqrt : Spec := fun args => match args with
  | [.v (.s (.c (.g x)))] => some [.s (.c (.g (fsqrt x)))]
  | _ => none
theorem ok_math_Sqrt : SpecOK Try.prog 171 S_math_Sqrt :=
  auto_ok (Γ := [(206, S_math_sqrt)]) mixed 12 (ctx_cons ok_math_sqrt ctx_nil) ⟨Try.func171, by kernel_rfl, by kernel_rfl⟩ (by
    intro args r h
    unfold S_math_Sqrt at h
    split at h
    · cases h; kernel_rfl
    · cases h)

noncomputable def S_spec_l01Root : Spec := fun args => match args with
  | [.v (.s (.c (.f .f32 a)))] => some [rF (root a)]
  | _ => none
theorem ok_spec_l01Root : SpecOK Try.prog 114 S_spec_l01Root :=
  auto_ok (Γ := [(171, S_math_Sqrt)]) mixed 12 (ctx_cons ok_math_Sqrt ctx_nil) ⟨Try.func114, by kernel_rfl, by kernel_rfl⟩ (by
    intro args r h
    unfold S_spec_l01Root at h
    split at h
    · cases h; kernel_rfl
    · cases h)

noncomputable def S_spec_LengthOf : Spec := fun args => match args with
  | [.v (.agg xs0)] => withFs xs0 fun l0 => match l0 with
    | [a, b, c] => some [rF (len a b c)]
    | _ => none
  | _ => none
theorem ok_spec_LengthOf : SpecOK Try.prog 156 S_spec_LengthOf :=
  auto_ok (Γ := [(102, S_spec_DotOf), (114, S_spec_l01Root)]) mixed 12 (ctx_cons ok_spec_DotOf (ctx_cons ok_spec_l01Root ctx_nil)) ⟨Try.func156, by kernel_rfl, by kernel_rfl⟩ (by
    intro args r h
    unfold S_spec_LengthOf at h
    split at h
    · obtain ⟨l0, e0, g0⟩ := withFs_spec h; clear h; subst e0
      split at g0
      · cases g0; kernel_rfl
      · cases g0
    · cases h)

noncomputable def S_spec_l01Plane : Spec := fun args => match args with
  | [.ref xs0] => withFs xs0 fun l0 => match l0 with
    | [n, m, o, d] => some [rB (okPlane n m o d)]
    | _ => none
  | _ => none
theorem ok_spec_l01Plane : SpecOK Try.prog 145 S_spec_l01Plane :=
  auto_ok (Γ := [(98, S_spec_l01Point), (156, S_spec_LengthOf), (165, S_spec_l01Plain)]) mixed 12 (ctx_cons ok_spec_l01Point (ctx_cons ok_spec_LengthOf (ctx_cons ok_spec_l01Plain ctx_nil))) ⟨Try.func145, by kernel_rfl, by kernel_rfl⟩ (by
    intro args r h
    unfold S_spec_l01Plane at h
    split at h
    · obtain ⟨l0, e0, g0⟩ := withFs_spec h; clear h; subst e0
      split at g0
      · cases g0; kernel_rfl
      · cases g0
    · cases h)

noncomputable def S_spec_ValidPlane : Spec := fun args => match args with
  | [.v (.agg xs0)] => withFs xs0 fun l0 => match l0 with
    | [n, m, o, d] => some [rB (okPlane n m o d)]
    | _ => none
  | _ => none
theorem ok_spec_ValidPlane : SpecOK Try.prog 76 S_spec_ValidPlane :=
  auto_ok (Γ := [(145, S_spec_l01Plane)]) mixed 12 (ctx_cons ok_spec_l01Plane ctx_nil) ⟨Try.func76, by kernel_rfl, by kernel_rfl⟩ (by
    intro args r h
    unfold S_spec_ValidPlane at h
    split at h
    · obtain ⟨l0, e0, g0⟩ := withFs_spec h; clear h; subst e0
      split at g0
      · cases g0; kernel_rfl
      · cases g0
    · cases h)

noncomputable def S_spec_ValidPoint : Spec := fun args => match args with
  | [.v (.agg xs0)] => withFs xs0 fun l0 => match l0 with
    | [a, b, c] => some [rB (ptOK a b c)]
    | _ => none
  | _ => none
theorem ok_spec_ValidPoint : SpecOK Try.prog 82 S_spec_ValidPoint :=
  auto_ok (Γ := [(98, S_spec_l01Point)]) mixed 12 (ctx_cons ok_spec_l01Point ctx_nil) ⟨Try.func82, by kernel_rfl, by kernel_rfl⟩ (by
    intro args r h
    unfold S_spec_ValidPoint at h
    split at h
    · obtain ⟨l0, e0, g0⟩ := withFs_spec h; clear h; subst e0
      split at g0
      · cases g0; kernel_rfl
      · cases g0
    · cases h)

noncomputable def S_spec_l04Ok : Spec := fun args => match args with
  | [.ref xs0] => withM [.f, .f, .f, .b, .f] xs0 fun l0 b0 i0 => match l0, b0, i0 with
    | [a, b, c, t], [s], [] => some [rB (okLamp a b c s t)]
    | _, _, _ => none
  | _ => none
theorem ok_spec_l04Ok : SpecOK Try.prog 81 S_spec_l04Ok :=
  auto_ok (Γ := [(82, S_spec_ValidPoint), (156, S_spec_LengthOf)]) mixed 12 (ctx_cons ok_spec_ValidPoint (ctx_cons ok_spec_LengthOf ctx_nil)) ⟨Try.func81, by kernel_rfl, by kernel_rfl⟩ (by
    intro args r h
    unfold S_spec_l04Ok at h
    split at h
    · obtain ⟨l0, b0, i0, e0, g0⟩ := withM_spec h; clear h; subst e0
      split at g0
      · cases g0; kernel_rfl
      · cases g0
    · cases h)

noncomputable def S_spec_l01Finite : Spec := fun args => match args with
  | [.v (.s (.c (.f .f32 a)))] => some [rB (isFin a)]
  | _ => none
theorem ok_spec_l01Finite : SpecOK Try.prog 91 S_spec_l01Finite :=
  auto_ok (Γ := []) mixed 12 ctx_nil ⟨Try.func91, by kernel_rfl, by kernel_rfl⟩ (by
    intro args r h
    unfold S_spec_l01Finite at h
    split at h
    · cases h; kernel_rfl
    · cases h)

noncomputable def S_spec_SubPoints : Spec := fun args => match args with
  | [.v (.agg xs0), .v (.agg xs1)] => withFs xs0 fun l0 => withFs xs1 fun l1 => match l0, l1 with
    | [a, b, c], [x, y, z] => some [rA [nsub a x, nsub b y, nsub c z]]
    | _, _ => none
  | _ => none
theorem ok_spec_SubPoints : SpecOK Try.prog 100 S_spec_SubPoints :=
  auto_ok (Γ := []) mixed 12 ctx_nil ⟨Try.func100, by kernel_rfl, by kernel_rfl⟩ (by
    intro args r h
    unfold S_spec_SubPoints at h
    split at h
    · obtain ⟨l0, e0, g0⟩ := withFs_spec h; clear h; subst e0
      obtain ⟨l1, e1, g1⟩ := withFs_spec g0; clear g0; subst e1
      split at g1
      · cases g1; kernel_rfl
      · cases g1
    · cases h)

noncomputable def S_spec_l04Way : Spec := fun args => match args with
  | [.ref xs0, .v (.agg xs1)] => withM [.f, .f, .f, .b, .f] xs0 fun l0 b0 i0 => withFs xs1 fun l1 => match l0, b0, i0, l1 with
    | [a, b, c, t], [s], [], [x, y, z] => some [rA [bif s then a else nsub a x, bif s then b else nsub b y, bif s then c else nsub c z]]
    | _, _, _, _ => none
  | _ => none
theorem ok_spec_l04Way : SpecOK Try.prog 157 S_spec_l04Way :=
  auto_ok (Γ := [(100, S_spec_SubPoints)]) mixed 12 (ctx_cons ok_spec_SubPoints ctx_nil) ⟨Try.func157, by kernel_rfl, by kernel_rfl⟩ (by
    intro args r h
    unfold S_spec_l04Way at h
    split at h
    · obtain ⟨l0, b0, i0, e0, g0⟩ := withM_spec h; clear h; subst e0
      obtain ⟨l1, e1, g1⟩ := withFs_spec g0; clear g0; subst e1
      split at g1
      · cases g1; kernel_rfl
      · cases g1
    · cases h)

noncomputable def S_spec_l04Tiny : Spec := fun args => match args with
  | [.v (.s (.c (.f .f32 a)))] => some [rB (small a)]
  | _ => none
theorem ok_spec_l04Tiny : SpecOK Try.prog 158 S_spec_l04Tiny :=
  auto_ok (Γ := []) mixed 12 ctx_nil ⟨Try.func158, by kernel_rfl, by kernel_rfl⟩ (by
    intro args r h
    unfold S_spec_l04Tiny at h
    split at h
    · cases h; kernel_rfl
    · cases h)

noncomputable def S_spec_l04Along : Spec := fun args => match args with
  | [.v (.agg xs0), .v (.s (.c (.f .f32 t))), .v (.agg xs2)] => withFs xs0 fun l0 => withFs xs2 fun l2 => match l0, l2 with
    | [x, y, z], [u, v, w] => some [rA [shQ t x u, shQ t y v, shQ t z w]]
    | _, _ => none
  | _ => none
theorem ok_spec_l04Along : SpecOK Try.prog 159 S_spec_l04Along :=
  auto_ok (Γ := []) mixed 12 ctx_nil ⟨Try.func159, by kernel_rfl, by kernel_rfl⟩ (by
    intro args r h
    unfold S_spec_l04Along at h
    split at h
    · obtain ⟨l0, e0, g0⟩ := withFs_spec h; clear h; subst e0
      obtain ⟨l2, e2, g2⟩ := withFs_spec g0; clear g0; subst e2
      split at g2
      · cases g2; kernel_rfl
      · cases g2
    · cases h)

noncomputable def S_spec_l04Shadow : Spec := fun args => match args with
  | [.ref xs0, .ref xs1, .v (.agg xs2)] => withM [.f, .f, .f, .b, .f] xs0 fun l0 b0 i0 => withFs xs1 fun l1 => withFs xs2 fun l2 => match l0, b0, i0, l1, l2 with
    | [a, b, c, t], [s], [], [n, m, o, d], [x, y, z] => some [.agg (fsL (shOut s a b c n m o d x y z)), rI (shCod s a b c n m o d x y z)]
    | _, _, _, _, _ => none
  | _ => none
theorem ok_spec_l04Shadow : SpecOK Try.prog 83 S_spec_l04Shadow :=
  auto_ok (Γ := [(91, S_spec_l01Finite), (102, S_spec_DotOf), (157, S_spec_l04Way), (158, S_spec_l04Tiny), (159, S_spec_l04Along)]) mixed 12 (ctx_cons ok_spec_l01Finite (ctx_cons ok_spec_DotOf (ctx_cons ok_spec_l04Way (ctx_cons ok_spec_l04Tiny (ctx_cons ok_spec_l04Along ctx_nil))))) ⟨Try.func83, by kernel_rfl, by kernel_rfl⟩ (by
    intro args r h
    unfold S_spec_l04Shadow at h
    split at h
    · rename_i xs0 xs1 xs2
      obtain ⟨l0, b0, i0, e0, g0⟩ := withM_spec h; clear h; subst e0
      obtain ⟨l1, e1, g1⟩ := withFs_spec g0; clear g0; subst e1
      obtain ⟨l2, e2, g2⟩ := withFs_spec g1; clear g1; subst e2
      split at g2
      · rename_i a b c t s n m o d x y z; cases g2; exact (show _ = some [.agg (fsL (shO (small (shE s a b c n m o x y z)) (fgt .f32 (shT s a b c n m o d x y z) 0) (shFS s a b c n m o d x y z) (shQ (shT s a b c n m o d x y z) x (wayC s a x)) (shQ (shT s a b c n m o d x y z) y (wayC s b y)) (shQ (shT s a b c n m o d x y z) z (wayC s c z)))), rI (shC (small (shE s a b c n m o x y z)) (fgt .f32 (shT s a b c n m o d x y z) 0) (shFS s a b c n m o d x y z))] by kernel_rfl).trans (by unfold shOut shCod shFS; rw [nf3_eq])
      · cases g2
    · cases h)

noncomputable def S_spec_ShadowOfPoint : Spec := fun args => match args with
  | [.v (.agg xs0), .v (.agg xs1), .v (.agg xs2)] => withM [.f, .f, .f, .b, .f] xs0 fun l0 b0 i0 => withFs xs1 fun l1 => withFs xs2 fun l2 => match l0, b0, i0, l1, l2 with
    | [a, b, c, t], [s], [], [n, m, o, d], [x, y, z] => some [.agg (fsL ((shOut s a b c n m o d x y z).map (sel (badSh a b c s t n m o d x y z)))), rI (cod (badSh a b c s t n m o d x y z) 1 (shCod s a b c n m o d x y z))]
    | _, _, _, _, _ => none
  | _ => none
theorem ok_spec_ShadowOfPoint : SpecOK Try.prog 25 S_spec_ShadowOfPoint :=
  auto_ok (Γ := [(76, S_spec_ValidPlane), (81, S_spec_l04Ok), (82, S_spec_ValidPoint), (83, S_spec_l04Shadow)]) mixed 12 (ctx_cons ok_spec_ValidPlane (ctx_cons ok_spec_l04Ok (ctx_cons ok_spec_ValidPoint (ctx_cons ok_spec_l04Shadow ctx_nil)))) ⟨Try.func25, by kernel_rfl, by kernel_rfl⟩ (by
    intro args r h
    unfold S_spec_ShadowOfPoint at h
    split at h
    · obtain ⟨l0, b0, i0, e0, g0⟩ := withM_spec h; clear h; subst e0
      obtain ⟨l1, e1, g1⟩ := withFs_spec g0; clear g0; subst e1
      obtain ⟨l2, e2, g2⟩ := withFs_spec g1; clear g1; subst e2
      split at g2
      · cases g2; kernel_rfl
      · cases g2
    · cases h)

noncomputable def S_laws_toLamp : Spec := fun args => match args with
  | [.v (.agg xs0)] => withM [.f, .f, .f, .b, .f] xs0 fun l0 b0 i0 => match l0, b0, i0 with
    | [a, b, c, t], [s], [] => some [.agg [.c (.f .f32 a), .c (.f .f32 b), .c (.f .f32 c), .c (.b s), .c (.f .f32 t)]]
    | _, _, _ => none
  | _ => none
theorem ok_laws_toLamp : SpecOK Try.prog 26 S_laws_toLamp :=
  auto_ok (Γ := [(27, S_laws_toPoint)]) mixed 12 (ctx_cons ok_laws_toPoint ctx_nil) ⟨Try.func26, by kernel_rfl, by kernel_rfl⟩ (by
    intro args r h
    unfold S_laws_toLamp at h
    split at h
    · obtain ⟨l0, b0, i0, e0, g0⟩ := withM_spec h; clear h; subst e0
      split at g0
      · cases g0; kernel_rfl
      · cases g0
    · cases h)

noncomputable def S_impl_first : Spec := funcSpec Try.prog [] 14 Try.f84
theorem ok_impl_first : SpecOK Try.prog 84 S_impl_first := func_sound ctx_nil mixed 14 ⟨Try.func84, by kernel_rfl, by kernel_rfl⟩

noncomputable def S_impl_when : Spec := fun args => match args with
  | [.v (.s (.c (.b b))), .v (.s (.c (.i .i64 n)))] => some [rI (bif b then n else 0)]
  | _ => none
theorem ok_impl_when : SpecOK Try.prog 92 S_impl_when :=
  auto_ok (Γ := []) mixed 12 ctx_nil ⟨Try.func92, by kernel_rfl, by kernel_rfl⟩ (by
    intro args r h
    unfold S_impl_when at h
    split at h
    · cases h; kernel_rfl
    · cases h)

noncomputable def S_impl_DotOf : Spec := fun args => match args with
  | [.v (.agg xs0), .v (.agg xs1)] => withFs xs0 fun l0 => withFs xs1 fun l1 => match l0, l1 with
    | [a, b, c], [x, y, z] => some [rF (dot a b c x y z)]
    | _, _ => none
  | _ => none
theorem ok_impl_DotOf : SpecOK Try.prog 106 S_impl_DotOf :=
  auto_ok (Γ := []) mixed 12 ctx_nil ⟨Try.func106, by kernel_rfl, by kernel_rfl⟩ (by
    intro args r h
    unfold S_impl_DotOf at h
    split at h
    · obtain ⟨l0, e0, g0⟩ := withFs_spec h; clear h; subst e0
      obtain ⟨l1, e1, g1⟩ := withFs_spec g0; clear g0; subst e1
      split at g1
      · cases g1; kernel_rfl
      · cases g1
    · cases h)

noncomputable def S_impl_root : Spec := fun args => match args with
  | [.v (.s (.c (.f .f32 a)))] => some [rF (root a)]
  | _ => none
theorem ok_impl_root : SpecOK Try.prog 116 S_impl_root :=
  auto_ok (Γ := [(171, S_math_Sqrt)]) mixed 12 (ctx_cons ok_math_Sqrt ctx_nil) ⟨Try.func116, by kernel_rfl, by kernel_rfl⟩ (by
    intro args r h
    unfold S_impl_root at h
    split at h
    · cases h; kernel_rfl
    · cases h)

noncomputable def S_impl_LengthOf : Spec := fun args => match args with
  | [.v (.agg xs0)] => withFs xs0 fun l0 => match l0 with
    | [a, b, c] => some [rF (len a b c)]
    | _ => none
  | _ => none
theorem ok_impl_LengthOf : SpecOK Try.prog 149 S_impl_LengthOf :=
  auto_ok (Γ := [(106, S_impl_DotOf), (116, S_impl_root)]) mixed 12 (ctx_cons ok_impl_DotOf (ctx_cons ok_impl_root ctx_nil)) ⟨Try.func149, by kernel_rfl, by kernel_rfl⟩ (by
    intro args r h
    unfold S_impl_LengthOf at h
    split at h
    · obtain ⟨l0, e0, g0⟩ := withFs_spec h; clear h; subst e0
      split at g0
      · cases g0; kernel_rfl
      · cases g0
    · cases h)

noncomputable def S_impl_IsPlain : Spec := fun args => match args with
  | [.v (.s (.c (.f .f32 a)))] => some [rB (isPlain a)]
  | _ => none
theorem ok_impl_IsPlain : SpecOK Try.prog 150 S_impl_IsPlain :=
  auto_ok (Γ := []) mixed 12 ctx_nil ⟨Try.func150, by kernel_rfl, by kernel_rfl⟩ (by
    intro args r h
    unfold S_impl_IsPlain at h
    split at h
    · cases h; kernel_rfl
    · cases h)

noncomputable def S_impl_arePlain_1 : Spec := fun args => match args with
  | [.v (.s (.c (.f .f32 a)))] => some [rB (!isPlain a)]
  | _ => none
theorem ok_impl_arePlain_1 : SpecOK Try.prog 164 S_impl_arePlain_1 :=
  auto_ok (Γ := [(150, S_impl_IsPlain)]) mixed 12 (ctx_cons ok_impl_IsPlain ctx_nil) ⟨Try.func164, by kernel_rfl, by kernel_rfl⟩ (by
    intro args r h
    unfold S_impl_arePlain_1 at h
    split at h
    · cases h; kernel_rfl
    · cases h)

noncomputable def S_impl_isFinite : Spec := fun args => match args with
  | [.v (.s (.c (.f .f32 a)))] => some [rB (isFin a)]
  | _ => none
theorem ok_impl_isFinite : SpecOK Try.prog 117 S_impl_isFinite :=
  auto_ok (Γ := []) mixed 12 ctx_nil ⟨Try.func117, by kernel_rfl, by kernel_rfl⟩ (by
    intro args r h
    unfold S_impl_isFinite at h
    split at h
    · cases h; kernel_rfl
    · cases h)

noncomputable def S_impl_areFinite_1 : Spec := fun args => match args with
  | [.v (.s (.c (.f .f32 a)))] => some [rB (!isFin a)]
  | _ => none
theorem ok_impl_areFinite_1 : SpecOK Try.prog 155 S_impl_areFinite_1 :=
  auto_ok (Γ := [(117, S_impl_isFinite)]) mixed 12 (ctx_cons ok_impl_isFinite ctx_nil) ⟨Try.func155, by kernel_rfl, by kernel_rfl⟩ (by
    intro args r h
    unfold S_impl_areFinite_1 at h
    split at h
    · cases h; kernel_rfl
    · cases h)

noncomputable def S_slices_IndexFunc_float32_float32 : Spec := funcSpec Try.prog [(164, S_impl_arePlain_1), (155, S_impl_areFinite_1)] 14 Try.f200
theorem ok_slices_IndexFunc_float32_float32 : SpecOK Try.prog 200 S_slices_IndexFunc_float32_float32 := func_sound (ctx_cons ok_impl_arePlain_1 (ctx_cons ok_impl_areFinite_1 ctx_nil)) mixed 14 ⟨Try.func200, by kernel_rfl, by kernel_rfl⟩

noncomputable def S_slices_ContainsFunc_float32_float32 : Spec := funcSpec Try.prog [(200, S_slices_IndexFunc_float32_float32), (164, S_impl_arePlain_1), (155, S_impl_areFinite_1)] 14 Try.f154
theorem ok_slices_ContainsFunc_float32_float32 : SpecOK Try.prog 154 S_slices_ContainsFunc_float32_float32 := func_sound (ctx_cons ok_slices_IndexFunc_float32_float32 (ctx_cons ok_impl_arePlain_1 (ctx_cons ok_impl_areFinite_1 ctx_nil))) mixed 14 ⟨Try.func154, by kernel_rfl, by kernel_rfl⟩

noncomputable def S_impl_arePlain : Spec := fun args => match args with
  | [.sl xs n] => withFs xs fun l => match n, l with
    | 1, [x0] => some [rB (allF isPlain [x0])]
    | 2, [x0, x1] => some [rB (allF isPlain [x0, x1])]
    | 3, [x0, x1, x2] => some [rB (allF isPlain [x0, x1, x2])]
    | 4, [x0, x1, x2, x3] => some [rB (allF isPlain [x0, x1, x2, x3])]
    | 5, [x0, x1, x2, x3, x4] => some [rB (allF isPlain [x0, x1, x2, x3, x4])]
    | 9, [x0, x1, x2, x3, x4, x5, x6, x7, x8] => some [rB (allF isPlain [x0, x1, x2, x3, x4, x5, x6, x7, x8])]
    | _, _ => none
  | _ => none
theorem ok_impl_arePlain : SpecOK Try.prog 93 S_impl_arePlain :=
  auto_ok (Γ := [(154, S_slices_ContainsFunc_float32_float32), (164, S_impl_arePlain_1)]) mixed 14 (ctx_cons ok_slices_ContainsFunc_float32_float32 (ctx_cons ok_impl_arePlain_1 ctx_nil)) ⟨Try.func93, by kernel_rfl, by kernel_rfl⟩ (by
    intro args r h
    unfold S_impl_arePlain at h
    split at h
    · obtain ⟨l0, e0, g0⟩ := withFs_spec h; clear h; subst e0
      split at g0
      · rename_i x0; cases g0
        have e : funcSpec Try.prog [(154, S_slices_ContainsFunc_float32_float32), (164, S_impl_arePlain_1)] 14 Try.f93 [.sl (fsL [x0]) 1] = some [rB (!decide (idxB 0 [!isPlain x0] ≥ 0))] := by kernel_rfl
        rw [e, not_idxB]; rfl
      · rename_i x0 x1; cases g0
        have e : funcSpec Try.prog [(154, S_slices_ContainsFunc_float32_float32), (164, S_impl_arePlain_1)] 14 Try.f93 [.sl (fsL [x0, x1]) 2] = some [rB (!decide (idxB 0 [!isPlain x0, !isPlain x1] ≥ 0))] := by kernel_rfl
        rw [e, not_idxB]; rfl
      · rename_i x0 x1 x2; cases g0
        have e : funcSpec Try.prog [(154, S_slices_ContainsFunc_float32_float32), (164, S_impl_arePlain_1)] 14 Try.f93 [.sl (fsL [x0, x1, x2]) 3] = some [rB (!decide (idxB 0 [!isPlain x0, !isPlain x1, !isPlain x2] ≥ 0))] := by kernel_rfl
        rw [e, not_idxB]; rfl
      · rename_i x0 x1 x2 x3; cases g0
        have e : funcSpec Try.prog [(154, S_slices_ContainsFunc_float32_float32), (164, S_impl_arePlain_1)] 14 Try.f93 [.sl (fsL [x0, x1, x2, x3]) 4] = some [rB (!decide (idxB 0 [!isPlain x0, !isPlain x1, !isPlain x2, !isPlain x3] ≥ 0))] := by kernel_rfl
        rw [e, not_idxB]; rfl
      · rename_i x0 x1 x2 x3 x4; cases g0
        have e : funcSpec Try.prog [(154, S_slices_ContainsFunc_float32_float32), (164, S_impl_arePlain_1)] 14 Try.f93 [.sl (fsL [x0, x1, x2, x3, x4]) 5] = some [rB (!decide (idxB 0 [!isPlain x0, !isPlain x1, !isPlain x2, !isPlain x3, !isPlain x4] ≥ 0))] := by kernel_rfl
        rw [e, not_idxB]; rfl
      · rename_i x0 x1 x2 x3 x4 x5 x6 x7 x8; cases g0
        have e : funcSpec Try.prog [(154, S_slices_ContainsFunc_float32_float32), (164, S_impl_arePlain_1)] 14 Try.f93 [.sl (fsL [x0, x1, x2, x3, x4, x5, x6, x7, x8]) 9] = some [rB (!decide (idxB 0 [!isPlain x0, !isPlain x1, !isPlain x2, !isPlain x3, !isPlain x4, !isPlain x5, !isPlain x6, !isPlain x7, !isPlain x8] ≥ 0))] := by kernel_rfl
        rw [e, not_idxB]; rfl
      · cases g0
    · cases h)

noncomputable def S_impl_ValidPoint : Spec := fun args => match args with
  | [.v (.agg xs0)] => withFs xs0 fun l0 => match l0 with
    | [a, b, c] => some [rB (ptOK a b c)]
    | _ => none
  | _ => none
theorem ok_impl_ValidPoint : SpecOK Try.prog 151 S_impl_ValidPoint :=
  auto_ok (Γ := [(93, S_impl_arePlain)]) mixed 12 (ctx_cons ok_impl_arePlain ctx_nil) ⟨Try.func151, by kernel_rfl, by kernel_rfl⟩ (by
    intro args r h
    unfold S_impl_ValidPoint at h
    split at h
    · rename_i xs0
      obtain ⟨l0, e0, g0⟩ := withFs_spec h; clear h; subst e0
      split at g0
      · rename_i a b c; cases g0; exact (show _ = some [rB (allF isPlain [a, b, c])] by kernel_rfl).trans (by simp only [ptOK, spotOK, allPts, allSps, all2, all3, ptF, spotF, allF, allL, sel, cod, List.map, allC_cons, allC_nil, bif_f, bif_t, Bool.not_not, Bool.not_and, Bool.not_or, Bool.and_true, Bool.or_false, Bool.and_assoc, Bool.or_assoc, code_ne, bif_bif, cond_true, cond_false])
      · cases g0
    · cases h)

noncomputable def S_impl_ValidLamp : Spec := fun args => match args with
  | [.v (.agg xs0)] => withM [.f, .f, .f, .b, .f] xs0 fun l0 b0 i0 => match l0, b0, i0 with
    | [a, b, c, t], [s], [] => some [rB (okLamp a b c s t)]
    | _, _, _ => none
  | _ => none
theorem ok_impl_ValidLamp : SpecOK Try.prog 160 S_impl_ValidLamp :=
  auto_ok (Γ := [(149, S_impl_LengthOf), (151, S_impl_ValidPoint)]) mixed 12 (ctx_cons ok_impl_LengthOf (ctx_cons ok_impl_ValidPoint ctx_nil)) ⟨Try.func160, by kernel_rfl, by kernel_rfl⟩ (by
    intro args r h
    unfold S_impl_ValidLamp at h
    split at h
    · obtain ⟨l0, b0, i0, e0, g0⟩ := withM_spec h; clear h; subst e0
      split at g0
      · cases g0; kernel_rfl
      · cases g0
    · cases h)

noncomputable def S_impl_arePoints_1 : Spec := fun args => match args with
  | [.v (.agg xs0)] => withFs xs0 fun l0 => match l0 with
    | [a, b, c] => some [rB (!ptF a b c)]
    | _ => none
  | _ => none
theorem ok_impl_arePoints_1 : SpecOK Try.prog 202 S_impl_arePoints_1 :=
  auto_ok (Γ := [(151, S_impl_ValidPoint)]) mixed 12 (ctx_cons ok_impl_ValidPoint ctx_nil) ⟨Try.func202, by kernel_rfl, by kernel_rfl⟩ (by
    intro args r h
    unfold S_impl_arePoints_1 at h
    split at h
    · rename_i xs0
      obtain ⟨l0, e0, g0⟩ := withFs_spec h; clear h; subst e0
      split at g0
      · rename_i a b c; cases g0; exact (show _ = some [rB (!ptOK a b c)] by kernel_rfl).trans (by simp only [ptOK, spotOK, allPts, allSps, all2, all3, ptF, spotF, allF, allL, sel, cod, List.map, allC_cons, allC_nil, bif_f, bif_t, Bool.not_not, Bool.not_and, Bool.not_or, Bool.and_true, Bool.or_false, Bool.and_assoc, Bool.or_assoc, code_ne, bif_bif, cond_true, cond_false])
      · cases g0
    · cases h)

noncomputable def S_slices_IndexFunc_impl_Point_impl_Point : Spec := funcSpec Try.prog [(202, S_impl_arePoints_1)] 14 Try.f221
theorem ok_slices_IndexFunc_impl_Point_impl_Point : SpecOK Try.prog 221 S_slices_IndexFunc_impl_Point_impl_Point := func_sound (ctx_cons ok_impl_arePoints_1 ctx_nil) mixed 14 ⟨Try.func221, by kernel_rfl, by kernel_rfl⟩

noncomputable def S_slices_ContainsFunc_impl_Point_impl_Point : Spec := funcSpec Try.prog [(221, S_slices_IndexFunc_impl_Point_impl_Point), (202, S_impl_arePoints_1)] 14 Try.f201
theorem ok_slices_ContainsFunc_impl_Point_impl_Point : SpecOK Try.prog 201 S_slices_ContainsFunc_impl_Point_impl_Point := func_sound (ctx_cons ok_slices_IndexFunc_impl_Point_impl_Point (ctx_cons ok_impl_arePoints_1 ctx_nil)) mixed 14 ⟨Try.func201, by kernel_rfl, by kernel_rfl⟩

noncomputable def S_impl_arePoints : Spec := fun args => match args with
  | [.sl xs n] => withFs xs fun l => match n, l with
    | 1, [x0, x1, x2] => some [rB (allPts [x0, x1, x2])]
    | 2, [x0, x1, x2, x3, x4, x5] => some [rB (allPts [x0, x1, x2, x3, x4, x5])]
    | 3, [x0, x1, x2, x3, x4, x5, x6, x7, x8] => some [rB (allPts [x0, x1, x2, x3, x4, x5, x6, x7, x8])]
    | 4, [x0, x1, x2, x3, x4, x5, x6, x7, x8, x9, x10, x11] => some [rB (allPts [x0, x1, x2, x3, x4, x5, x6, x7, x8, x9, x10, x11])]
    | _, _ => none
  | [.v (.s (.c (.lit (.slice none 0 0))))] => funcSpec Try.prog [(201, S_slices_ContainsFunc_impl_Point_impl_Point), (202, S_impl_arePoints_1)] 14 Try.f161 [.v (.s (.c (.lit (.slice none 0 0))))]
  | _ => none
theorem ok_impl_arePoints : SpecOK Try.prog 161 S_impl_arePoints :=
  auto_ok (Γ := [(201, S_slices_ContainsFunc_impl_Point_impl_Point), (202, S_impl_arePoints_1)]) mixed 14 (ctx_cons ok_slices_ContainsFunc_impl_Point_impl_Point (ctx_cons ok_impl_arePoints_1 ctx_nil)) ⟨Try.func161, by kernel_rfl, by kernel_rfl⟩ (by
    intro args r h
    unfold S_impl_arePoints at h
    split at h
    · obtain ⟨l0, e0, g0⟩ := withFs_spec h; clear h; subst e0
      split at g0
      · rename_i x0 x1 x2; cases g0
        have e : funcSpec Try.prog [(201, S_slices_ContainsFunc_impl_Point_impl_Point), (202, S_impl_arePoints_1)] 14 Try.f161 [.sl (fsL [x0, x1, x2]) 1] = some [rB (!decide (idxB 0 [!ptF x0 x1 x2] ≥ 0))] := by kernel_rfl
        rw [e, not_idxB]; rfl
      · rename_i x0 x1 x2 x3 x4 x5; cases g0
        have e : funcSpec Try.prog [(201, S_slices_ContainsFunc_impl_Point_impl_Point), (202, S_impl_arePoints_1)] 14 Try.f161 [.sl (fsL [x0, x1, x2, x3, x4, x5]) 2] = some [rB (!decide (idxB 0 [!ptF x0 x1 x2, !ptF x3 x4 x5] ≥ 0))] := by kernel_rfl
        rw [e, not_idxB]; rfl
      · rename_i x0 x1 x2 x3 x4 x5 x6 x7 x8; cases g0
        have e : funcSpec Try.prog [(201, S_slices_ContainsFunc_impl_Point_impl_Point), (202, S_impl_arePoints_1)] 14 Try.f161 [.sl (fsL [x0, x1, x2, x3, x4, x5, x6, x7, x8]) 3] = some [rB (!decide (idxB 0 [!ptF x0 x1 x2, !ptF x3 x4 x5, !ptF x6 x7 x8] ≥ 0))] := by kernel_rfl
        rw [e, not_idxB]; rfl
      · rename_i x0 x1 x2 x3 x4 x5 x6 x7 x8 x9 x10 x11; cases g0
        have e : funcSpec Try.prog [(201, S_slices_ContainsFunc_impl_Point_impl_Point), (202, S_impl_arePoints_1)] 14 Try.f161 [.sl (fsL [x0, x1, x2, x3, x4, x5, x6, x7, x8, x9, x10, x11]) 4] = some [rB (!decide (idxB 0 [!ptF x0 x1 x2, !ptF x3 x4 x5, !ptF x6 x7 x8, !ptF x9 x10 x11] ≥ 0))] := by kernel_rfl
        rw [e, not_idxB]; rfl
      · cases g0
    · exact h
    · cases h)

noncomputable def S_impl_lampCode : Spec := funcSpec Try.prog [(92, S_impl_when), (160, S_impl_ValidLamp), (161, S_impl_arePoints)] 14 Try.f85
theorem ok_impl_lampCode : SpecOK Try.prog 85 S_impl_lampCode := func_sound (ctx_cons ok_impl_when (ctx_cons ok_impl_ValidLamp (ctx_cons ok_impl_arePoints ctx_nil))) mixed 14 ⟨Try.func85, by kernel_rfl, by kernel_rfl⟩

noncomputable def S_impl_ValidPlane : Spec := fun args => match args with
  | [.v (.agg xs0)] => withFs xs0 fun l0 => match l0 with
    | [n, m, o, d] => some [rB (okPlane n m o d)]
    | _ => none
  | _ => none
theorem ok_impl_ValidPlane : SpecOK Try.prog 78 S_impl_ValidPlane :=
  auto_ok (Γ := [(149, S_impl_LengthOf), (150, S_impl_IsPlain), (151, S_impl_ValidPoint)]) mixed 12 (ctx_cons ok_impl_LengthOf (ctx_cons ok_impl_IsPlain (ctx_cons ok_impl_ValidPoint ctx_nil))) ⟨Try.func78, by kernel_rfl, by kernel_rfl⟩ (by
    intro args r h
    unfold S_impl_ValidPlane at h
    split at h
    · rename_i xs0
      obtain ⟨l0, e0, g0⟩ := withFs_spec h; clear h; subst e0
      split at g0
      · rename_i n m o d; cases g0; exact (show _ = some [rB (okPlaneI n m o d)] by kernel_rfl).trans (by rw [okPlane_eq])
      · cases g0
    · cases h)

noncomputable def S_impl_planeCode : Spec := funcSpec Try.prog [(78, S_impl_ValidPlane), (92, S_impl_when), (161, S_impl_arePoints)] 14 Try.f86
theorem ok_impl_planeCode : SpecOK Try.prog 86 S_impl_planeCode := func_sound (ctx_cons ok_impl_ValidPlane (ctx_cons ok_impl_when (ctx_cons ok_impl_arePoints ctx_nil))) mixed 14 ⟨Try.func86, by kernel_rfl, by kernel_rfl⟩

noncomputable def S_impl_areFinite : Spec := fun args => match args with
  | [.sl xs n] => withFs xs fun l => match n, l with
    | 1, [x0] => some [rB (allF isFin [x0])]
    | 2, [x0, x1] => some [rB (allF isFin [x0, x1])]
    | 3, [x0, x1, x2] => some [rB (allF isFin [x0, x1, x2])]
    | _, _ => none
  | _ => none
theorem ok_impl_areFinite : SpecOK Try.prog 80 S_impl_areFinite :=
  auto_ok (Γ := [(154, S_slices_ContainsFunc_float32_float32), (155, S_impl_areFinite_1)]) mixed 14 (ctx_cons ok_slices_ContainsFunc_float32_float32 (ctx_cons ok_impl_areFinite_1 ctx_nil)) ⟨Try.func80, by kernel_rfl, by kernel_rfl⟩ (by
    intro args r h
    unfold S_impl_areFinite at h
    split at h
    · obtain ⟨l0, e0, g0⟩ := withFs_spec h; clear h; subst e0
      split at g0
      · rename_i x0; cases g0
        have e : funcSpec Try.prog [(154, S_slices_ContainsFunc_float32_float32), (155, S_impl_areFinite_1)] 14 Try.f80 [.sl (fsL [x0]) 1] = some [rB (!decide (idxB 0 [!isFin x0] ≥ 0))] := by kernel_rfl
        rw [e, not_idxB]; rfl
      · rename_i x0 x1; cases g0
        have e : funcSpec Try.prog [(154, S_slices_ContainsFunc_float32_float32), (155, S_impl_areFinite_1)] 14 Try.f80 [.sl (fsL [x0, x1]) 2] = some [rB (!decide (idxB 0 [!isFin x0, !isFin x1] ≥ 0))] := by kernel_rfl
        rw [e, not_idxB]; rfl
      · rename_i x0 x1 x2; cases g0
        have e : funcSpec Try.prog [(154, S_slices_ContainsFunc_float32_float32), (155, S_impl_areFinite_1)] 14 Try.f80 [.sl (fsL [x0, x1, x2]) 3] = some [rB (!decide (idxB 0 [!isFin x0, !isFin x1, !isFin x2] ≥ 0))] := by kernel_rfl
        rw [e, not_idxB]; rfl
      · cases g0
    · cases h)

noncomputable def S_impl_finite : Spec := fun args => match args with
  | [.v (.agg xs0)] => withFs xs0 fun l0 => match l0 with
    | [a, b, c] => some [rA [sel (!fin3 a b c) a, sel (!fin3 a b c) b, sel (!fin3 a b c) c], rI (cod (!fin3 a b c) 4 0)]
    | _ => none
  | _ => none
theorem ok_impl_finite : SpecOK Try.prog 94 S_impl_finite :=
  auto_ok (Γ := [(80, S_impl_areFinite)]) mixed 12 (ctx_cons ok_impl_areFinite ctx_nil) ⟨Try.func94, by kernel_rfl, by kernel_rfl⟩ (by
    intro args r h
    unfold S_impl_finite at h
    split at h
    · rename_i xs0
      obtain ⟨l0, e0, g0⟩ := withFs_spec h; clear h; subst e0
      split at g0
      · rename_i a b c; cases g0; exact (show _ = some [rA [sel (!allF isFin [a, b, c]) a, sel (!allF isFin [a, b, c]) b, sel (!allF isFin [a, b, c]) c], rI (cod (!allF isFin [a, b, c]) 4 0)] by kernel_rfl).trans (by unfold fin3; simp only [ptOK, spotOK, allPts, allSps, all2, all3, ptF, spotF, allF, allL, sel, cod, List.map, allC_cons, allC_nil, bif_f, bif_t, Bool.not_not, Bool.not_and, Bool.not_or, Bool.and_true, Bool.or_false, Bool.and_assoc, Bool.or_assoc, code_ne, bif_bif, cond_true, cond_false])
      · cases g0
    · cases h)

noncomputable def S_impl_AddPoints : Spec := fun args => match args with
  | [.v (.agg xs0), .v (.agg xs1)] => withFs xs0 fun l0 => withFs xs1 fun l1 => match l0, l1 with
    | [a, b, c], [x, y, z] => some [rA [nadd a x, nadd b y, nadd c z]]
    | _, _ => none
  | _ => none
theorem ok_impl_AddPoints : SpecOK Try.prog 95 S_impl_AddPoints :=
  auto_ok (Γ := []) mixed 12 ctx_nil ⟨Try.func95, by kernel_rfl, by kernel_rfl⟩ (by
    intro args r h
    unfold S_impl_AddPoints at h
    split at h
    · obtain ⟨l0, e0, g0⟩ := withFs_spec h; clear h; subst e0
      obtain ⟨l1, e1, g1⟩ := withFs_spec g0; clear g0; subst e1
      split at g1
      · cases g1; kernel_rfl
      · cases g1
    · cases h)

noncomputable def S_impl_ScalePoint : Spec := fun args => match args with
  | [.v (.agg xs0), .v (.s (.c (.f .f32 t)))] => withFs xs0 fun l0 => match l0 with
    | [a, b, c] => some [rA [nmul a t, nmul b t, nmul c t]]
    | _ => none
  | _ => none
theorem ok_impl_ScalePoint : SpecOK Try.prog 96 S_impl_ScalePoint :=
  auto_ok (Γ := []) mixed 12 ctx_nil ⟨Try.func96, by kernel_rfl, by kernel_rfl⟩ (by
    intro args r h
    unfold S_impl_ScalePoint at h
    split at h
    · obtain ⟨l0, e0, g0⟩ := withFs_spec h; clear h; subst e0
      split at g0
      · cases g0; kernel_rfl
      · cases g0
    · cases h)

abbrev S_math_Float64frombits : Spec := S_from64
theorem ok_math_Float64frombits : SpecOK Try.prog 219 S_math_Float64frombits := ok_from64 (fn := Try.f219) ⟨Try.func219, by kernel_rfl, by kernel_rfl, by kernel_rfl, by kernel_rfl⟩

abbrev S_math_Float64bits : Spec := S_bits64
theorem ok_math_Float64bits : SpecOK Try.prog 220 S_math_Float64bits := ok_bits64 (fn := Try.f220) ⟨Try.func220, by kernel_rfl, by kernel_rfl, by kernel_rfl, by kernel_rfl⟩

abbrev S_math_Abs : Spec := S_abs
theorem ok_math_Abs : SpecOK Try.prog 196 S_math_Abs := ok_abs_of (func_sound (Γ := [(220, S_math_Float64bits), (219, S_math_Float64frombits)]) (ctx_cons ok_math_Float64bits (ctx_cons ok_math_Float64frombits ctx_nil)) mixed 12 ⟨Try.func196, by kernel_rfl, by kernel_rfl⟩) (fun b => by kernel_rfl)
noncomputable def S_impl_size : Spec := fun args => match args with
  | [.v (.s (.c (.f .f32 a)))] => some [rF (nabs a)]
  | _ => none
theorem ok_impl_size : SpecOK Try.prog 137 S_impl_size :=
  auto_ok (Γ := [(196, S_math_Abs)]) mixed 12 (ctx_cons ok_math_Abs ctx_nil) ⟨Try.func137, by kernel_rfl, by kernel_rfl⟩ (by
    intro args r h
    unfold S_impl_size at h
    split at h
    · cases h; kernel_rfl
    · cases h)

noncomputable def S_impl_SubPoints : Spec := fun args => match args with
  | [.v (.agg xs0), .v (.agg xs1)] => withFs xs0 fun l0 => withFs xs1 fun l1 => match l0, l1 with
    | [a, b, c], [x, y, z] => some [rA [nsub a x, nsub b y, nsub c z]]
    | _, _ => none
  | _ => none
theorem ok_impl_SubPoints : SpecOK Try.prog 105 S_impl_SubPoints :=
  auto_ok (Γ := []) mixed 12 ctx_nil ⟨Try.func105, by kernel_rfl, by kernel_rfl⟩ (by
    intro args r h
    unfold S_impl_SubPoints at h
    split at h
    · obtain ⟨l0, e0, g0⟩ := withFs_spec h; clear h; subst e0
      obtain ⟨l1, e1, g1⟩ := withFs_spec g0; clear g0; subst e1
      split at g1
      · cases g1; kernel_rfl
      · cases g1
    · cases h)

noncomputable def S_impl_Lamp_towards : Spec := fun args => match args with
  | [.ref xs0, .v (.agg xs1)] => withM [.f, .f, .f, .b, .f] xs0 fun l0 b0 i0 => withFs xs1 fun l1 => match l0, b0, i0, l1 with
    | [a, b, c, t], [s], [], [x, y, z] => some [rA [bif s then a else nsub a x, bif s then b else nsub b y, bif s then c else nsub c z]]
    | _, _, _, _ => none
  | _ => none
theorem ok_impl_Lamp_towards : SpecOK Try.prog 162 S_impl_Lamp_towards :=
  auto_ok (Γ := [(105, S_impl_SubPoints)]) mixed 12 (ctx_cons ok_impl_SubPoints ctx_nil) ⟨Try.func162, by kernel_rfl, by kernel_rfl⟩ (by
    intro args r h
    unfold S_impl_Lamp_towards at h
    split at h
    · obtain ⟨l0, b0, i0, e0, g0⟩ := withM_spec h; clear h; subst e0
      obtain ⟨l1, e1, g1⟩ := withFs_spec g0; clear g0; subst e1
      split at g1
      · cases g1; kernel_rfl
      · cases g1
    · cases h)

noncomputable def S_impl_Lamp_shadow : Spec := fun args => match args with
  | [.ref xs0, .v (.agg xs1), .v (.agg xs2)] => withM [.f, .f, .f, .b, .f] xs0 fun l0 b0 i0 => withFs xs1 fun l1 => withFs xs2 fun l2 => match l0, b0, i0, l1, l2 with
    | [a, b, c, t], [s], [], [n, m, o, d], [x, y, z] => some [.agg (fsL (shOut s a b c n m o d x y z)), rI (shCod s a b c n m o d x y z)]
    | _, _, _, _, _ => none
  | _ => none
theorem ok_impl_Lamp_shadow : SpecOK Try.prog 87 S_impl_Lamp_shadow :=
  auto_ok (Γ := [(94, S_impl_finite), (95, S_impl_AddPoints), (96, S_impl_ScalePoint), (106, S_impl_DotOf), (137, S_impl_size), (162, S_impl_Lamp_towards)]) mixed 12 (ctx_cons ok_impl_finite (ctx_cons ok_impl_AddPoints (ctx_cons ok_impl_ScalePoint (ctx_cons ok_impl_DotOf (ctx_cons ok_impl_size (ctx_cons ok_impl_Lamp_towards ctx_nil)))))) ⟨Try.func87, by kernel_rfl, by kernel_rfl⟩ (by
    intro args r h
    unfold S_impl_Lamp_shadow at h
    split at h
    · rename_i xs0 xs1 xs2
      obtain ⟨l0, b0, i0, e0, g0⟩ := withM_spec h; clear h; subst e0
      obtain ⟨l1, e1, g1⟩ := withFs_spec g0; clear g0; subst e1
      obtain ⟨l2, e2, g2⟩ := withFs_spec g1; clear g1; subst e2
      split at g2
      · rename_i a b c t s n m o d x y z; cases g2; exact (show _ = some [.agg (fsL (shO (flt .f32 (nabs (shE s a b c n m o x y z)) 897581056) (fgt .f32 (shT s a b c n m o d x y z) 0) (shFI s a b c n m o d x y z) (shQI (shT s a b c n m o d x y z) x (wayC s a x)) (shQI (shT s a b c n m o d x y z) y (wayC s b y)) (shQI (shT s a b c n m o d x y z) z (wayC s c z)))), rI (shC (flt .f32 (nabs (shE s a b c n m o x y z)) 897581056) (fgt .f32 (shT s a b c n m o d x y z) 0) (shFI s a b c n m o d x y z))] by kernel_rfl).trans (by unfold shOut shCod shFI; simp only [shQ_eq]; have h := sh_two (nsub d (dot n m o x y z)) (shE s a b c n m o x y z) x y z (wayC s a x) (wayC s b y) (wayC s c z); exact (congrArg (fun p => some [AE.agg (fsL p), rI _]) h.1).trans (congrArg (fun q => some [_, rI q]) h.2))
      · cases g2
    · cases h)

noncomputable def S_impl_ShadowOfPoint : Spec := fun args => match args with
  | [.v (.agg xs0), .v (.agg xs1), .v (.agg xs2)] => withM [.f, .f, .f, .b, .f] xs0 fun l0 b0 i0 => withFs xs1 fun l1 => withFs xs2 fun l2 => match l0, b0, i0, l1, l2 with
    | [a, b, c, t], [s], [], [n, m, o, d], [x, y, z] => some [.agg (fsL ((shOut s a b c n m o d x y z).map (sel (badSh a b c s t n m o d x y z)))), rI (cod (badSh a b c s t n m o d x y z) 1 (shCod s a b c n m o d x y z))]
    | _, _, _, _, _ => none
  | _ => none
theorem ok_impl_ShadowOfPoint : SpecOK Try.prog 28 S_impl_ShadowOfPoint :=
  auto_ok (Γ := [(84, S_impl_first), (85, S_impl_lampCode), (86, S_impl_planeCode), (87, S_impl_Lamp_shadow)]) mixed 12 (ctx_cons ok_impl_first (ctx_cons ok_impl_lampCode (ctx_cons ok_impl_planeCode (ctx_cons ok_impl_Lamp_shadow ctx_nil)))) ⟨Try.func28, by kernel_rfl, by kernel_rfl⟩ (by
    intro args r h
    unfold S_impl_ShadowOfPoint at h
    split at h
    · rename_i xs0 xs1 xs2
      obtain ⟨l0, b0, i0, e0, g0⟩ := withM_spec h; clear h; subst e0
      obtain ⟨l1, e1, g1⟩ := withFs_spec g0; clear g0; subst e1
      obtain ⟨l2, e2, g2⟩ := withFs_spec g1; clear g1; subst e2
      split at g2
      · rename_i a b c t s n m o d x y z; cases g2; exact (show _ = some [.agg (fsL ((shOut s a b c n m o d x y z).map (sel (shI a b c s t n m o d x y z != 0)))), rI (cod (shI a b c s t n m o d x y z != 0) (shI a b c s t n m o d x y z) (shCod s a b c n m o d x y z))] by kernel_rfl).trans (by rw [shI_eq]; unfold c01; rw [code_ne, cod_code])
      · cases g2
    · cases h)

noncomputable def S_laws_FnExactShadowOfPoint : Spec := fun args => match args with
  | [.v (.agg xs0), .v (.agg xs1), .v (.agg xs2)] => withM [.f, .f, .f, .b, .f] xs0 fun l0 b0 i0 => withFs xs1 fun l1 => withFs xs2 fun l2 => match l0, b0, i0, l1, l2 with
    | [a, b, c, t], [s], [], [n, m, o, d], [x, y, z] => some [rB (bif (bif (!allC (List.map (fun x => sameD (fwide x) (fwide x)) ((shOut s a b c n m o d x y z).map (sel (badSh a b c s t n m o d x y z))))) then true else (((cod (badSh a b c s t n m o d x y z) 1 (shCod s a b c n m o d x y z)) : Int) != (cod (badSh a b c s t n m o d x y z) 1 (shCod s a b c n m o d x y z)))) then false else true)]
    | _, _, _, _, _ => none
  | _ => none
theorem ok_laws_FnExactShadowOfPoint : SpecOK Try.prog 6 S_laws_FnExactShadowOfPoint :=
  auto_ok (Γ := [(22, S_laws_toPlane), (24, S_laws_eqPoint), (25, S_spec_ShadowOfPoint), (26, S_laws_toLamp), (27, S_laws_toPoint), (28, S_impl_ShadowOfPoint)]) mixed 12 (ctx_cons ok_laws_toPlane (ctx_cons ok_laws_eqPoint (ctx_cons ok_spec_ShadowOfPoint (ctx_cons ok_laws_toLamp (ctx_cons ok_laws_toPoint (ctx_cons ok_impl_ShadowOfPoint ctx_nil)))))) ⟨Try.func6, by kernel_rfl, by kernel_rfl⟩ (by
    intro args r h
    unfold S_laws_FnExactShadowOfPoint at h
    split at h
    · obtain ⟨l0, b0, i0, e0, g0⟩ := withM_spec h; clear h; subst e0
      obtain ⟨l1, e1, g1⟩ := withFs_spec g0; clear g0; subst e1
      obtain ⟨l2, e2, g2⟩ := withFs_spec g1; clear g1; subst e2
      split at g2
      · cases g2; kernel_rfl
      · cases g2
    · cases h)

end Go.Proofs.Ytkmijohkblmajaa
