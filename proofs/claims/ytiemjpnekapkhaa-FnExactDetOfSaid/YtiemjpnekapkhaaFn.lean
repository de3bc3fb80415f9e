/- Contracts of the functions that the laws of this seat reach. -/
import Derived.Test.YtiemjpnekapkhaaMod
import Derived.Test.YtiemjpnekapkhaaChecked
namespace Go.Proofs.Ytiemjpnekapkhaa
open Go Go.RowKit
set_option maxRecDepth 20000
theorem mixed : Try.prog.follows .mixedOrders = true := by kernel_rfl
def S_spec_l05Two : Spec := fun args => match args with
  | [.v (.s (.c (.f .f32 a))), .v (.s (.c (.f .f32 d))), .v (.s (.c (.f .f32 b))), .v (.s (.c (.f .f32 c)))] => some [rF (minor a b c d)]
  | _ => none
theorem ok_spec_l05Two : SpecOK Try.prog 26 S_spec_l05Two :=
  auto_ok (Γ := []) mixed 12 ctx_nil ⟨Try.func26, by kernel_rfl, by kernel_rfl⟩ (by
    intro args r h
    unfold S_spec_l05Two at h
    split at h
    · cases h; kernel_rfl
    · cases h)

def S_spec_TurnsLeft : Spec := fun args => match args with
  | [.v (.agg xs0), .v (.agg xs1), .v (.agg xs2)] => withFs xs0 fun l0 => withFs xs1 fun l1 => withFs xs2 fun l2 => match l0, l1, l2 with
    | [a0, a1], [b0, b1], [c0, c1] => some [rF (turnsLeft a0 a1 b0 b1 c0 c1)]
    | _, _, _ => none
  | _ => none
theorem ok_spec_TurnsLeft : SpecOK Try.prog 9 S_spec_TurnsLeft :=
  auto_ok (Γ := [(26, S_spec_l05Two)]) mixed 12 (ctx_cons ok_spec_l05Two ctx_nil) ⟨Try.func9, by kernel_rfl, by kernel_rfl⟩ (by
    intro args r h
    unfold S_spec_TurnsLeft at h
    split at h
    · obtain ⟨l0, e0, g0⟩ := withFs_spec h; clear h; subst e0
      obtain ⟨l1, e1, g1⟩ := withFs_spec g0; clear g0; subst e1
      obtain ⟨l2, e2, g2⟩ := withFs_spec g1; clear g1; subst e2
      split at g2
      · cases g2; kernel_rfl
      · cases g2
    · cases h)

def S_laws_toSpot : Spec := fun args => match args with
  | [.v (.agg xs0)] => withFs xs0 fun l0 => match l0 with
    | [x, y] => some [rA [x, y]]
    | _ => none
  | _ => none
theorem ok_laws_toSpot : SpecOK Try.prog 10 S_laws_toSpot :=
  auto_ok (Γ := []) mixed 12 ctx_nil ⟨Try.func10, by kernel_rfl, by kernel_rfl⟩ (by
    intro args r h
    unfold S_laws_toSpot at h
    split at h
    · obtain ⟨l0, e0, g0⟩ := withFs_spec h; clear h; subst e0
      split at g0
      · cases g0; kernel_rfl
      · cases g0
    · cases h)

def S_impl_minor : Spec := fun args => match args with
  | [.v (.s (.c (.f .f32 a))), .v (.s (.c (.f .f32 b))), .v (.s (.c (.f .f32 c))), .v (.s (.c (.f .f32 d)))] => some [rF (minor a b c d)]
  | _ => none
theorem ok_impl_minor : SpecOK Try.prog 27 S_impl_minor :=
  auto_ok (Γ := []) mixed 12 ctx_nil ⟨Try.func27, by kernel_rfl, by kernel_rfl⟩ (by
    intro args r h
    unfold S_impl_minor at h
    split at h
    · cases h; kernel_rfl
    · cases h)

def S_impl_TurnsLeft : Spec := fun args => match args with
  | [.v (.agg xs0), .v (.agg xs1), .v (.agg xs2)] => withFs xs0 fun l0 => withFs xs1 fun l1 => withFs xs2 fun l2 => match l0, l1, l2 with
    | [a0, a1], [b0, b1], [c0, c1] => some [rF (turnsLeft a0 a1 b0 b1 c0 c1)]
    | _, _, _ => none
  | _ => none
theorem ok_impl_TurnsLeft : SpecOK Try.prog 11 S_impl_TurnsLeft :=
  auto_ok (Γ := [(27, S_impl_minor)]) mixed 12 (ctx_cons ok_impl_minor ctx_nil) ⟨Try.func11, by kernel_rfl, by kernel_rfl⟩ (by
    intro args r h
    unfold S_impl_TurnsLeft at h
    split at h
    · obtain ⟨l0, e0, g0⟩ := withFs_spec h; clear h; subst e0
      obtain ⟨l1, e1, g1⟩ := withFs_spec g0; clear g0; subst e1
      obtain ⟨l2, e2, g2⟩ := withFs_spec g1; clear g1; subst e2
      split at g2
      · cases g2; kernel_rfl
      · cases g2
    · cases h)

def S_laws_sameFloat : Spec := fun args => match args with
  | [.v (.s (.c (.f .f64 a))), .v (.s (.c (.f .f64 b)))] => some [rB (sameD a b)]
  | _ => none
theorem ok_laws_sameFloat : SpecOK Try.prog 12 S_laws_sameFloat :=
  auto_ok (Γ := []) mixed 12 ctx_nil ⟨Try.func12, by kernel_rfl, by kernel_rfl⟩ (by
    intro args r h
    unfold S_laws_sameFloat at h
    split at h
    · cases h; kernel_rfl
    · cases h)

def S_laws_FnExactTurnsLeft : Spec := fun args => match args with
  | [.v (.agg xs0), .v (.agg xs1), .v (.agg xs2)] => withFs xs0 fun l0 => withFs xs1 fun l1 => withFs xs2 fun l2 => match l0, l1, l2 with
    | [a0, a1], [b0, b1], [c0, c1] => some [rB (bif !sameD (fwide (turnsLeft a0 a1 b0 b1 c0 c1)) (fwide (turnsLeft a0 a1 b0 b1 c0 c1)) then false else true)]
    | _, _, _ => none
  | _ => none
theorem ok_laws_FnExactTurnsLeft : SpecOK Try.prog 3 S_laws_FnExactTurnsLeft :=
  auto_ok (Γ := [(9, S_spec_TurnsLeft), (10, S_laws_toSpot), (11, S_impl_TurnsLeft), (12, S_laws_sameFloat)]) mixed 12 (ctx_cons ok_spec_TurnsLeft (ctx_cons ok_laws_toSpot (ctx_cons ok_impl_TurnsLeft (ctx_cons ok_laws_sameFloat ctx_nil)))) ⟨Try.func3, by kernel_rfl, by kernel_rfl⟩ (by
    intro args r h
    unfold S_laws_FnExactTurnsLeft at h
    split at h
    · obtain ⟨l0, e0, g0⟩ := withFs_spec h; clear h; subst e0
      obtain ⟨l1, e1, g1⟩ := withFs_spec g0; clear g0; subst e1
      obtain ⟨l2, e2, g2⟩ := withFs_spec g1; clear g1; subst e2
      split at g2
      · cases g2; kernel_rfl
      · cases g2
    · cases h)

def S_spec_DetOf : Spec := fun args => match args with
  | [.v (.agg xs0)] => withFs xs0 fun l0 => match l0 with
    | [a, b, c, d, e, f, g, h, i] => some [rF (detOf a b c d e f g h i)]
    | _ => none
  | _ => none
theorem ok_spec_DetOf : SpecOK Try.prog 13 S_spec_DetOf :=
  auto_ok (Γ := [(26, S_spec_l05Two)]) mixed 12 (ctx_cons ok_spec_l05Two ctx_nil) ⟨Try.func13, by kernel_rfl, by kernel_rfl⟩ (by
    intro args r h
    unfold S_spec_DetOf at h
    split at h
    · obtain ⟨l0, e0, g0⟩ := withFs_spec h; clear h; subst e0
      split at g0
      · cases g0; kernel_rfl
      · cases g0
    · cases h)

def S_laws_toMap : Spec := fun args => match args with
  | [.v (.agg xs0)] => withFs xs0 fun l0 => match l0 with
    | [a, b, c, d, e, f, g, h, i] => some [rA [a, b, c, d, e, f, g, h, i]]
    | _ => none
  | _ => none
theorem ok_laws_toMap : SpecOK Try.prog 14 S_laws_toMap :=
  auto_ok (Γ := []) mixed 12 ctx_nil ⟨Try.func14, by kernel_rfl, by kernel_rfl⟩ (by
    intro args r h
    unfold S_laws_toMap at h
    split at h
    · obtain ⟨l0, e0, g0⟩ := withFs_spec h; clear h; subst e0
      split at g0
      · cases g0; kernel_rfl
      · cases g0
    · cases h)

def S_impl_DetOf : Spec := fun args => match args with
  | [.v (.agg xs0)] => withFs xs0 fun l0 => match l0 with
    | [a, b, c, d, e, f, g, h, i] => some [rF (detOf a b c d e f g h i)]
    | _ => none
  | _ => none
theorem ok_impl_DetOf : SpecOK Try.prog 15 S_impl_DetOf :=
  auto_ok (Γ := [(27, S_impl_minor)]) mixed 12 (ctx_cons ok_impl_minor ctx_nil) ⟨Try.func15, by kernel_rfl, by kernel_rfl⟩ (by
    intro args r h
    unfold S_impl_DetOf at h
    split at h
    · obtain ⟨l0, e0, g0⟩ := withFs_spec h; clear h; subst e0
      split at g0
      · cases g0; kernel_rfl
      · cases g0
    · cases h)

def S_laws_FnExactDetOf : Spec := fun args => match args with
  | [.v (.agg xs0)] => withFs xs0 fun l0 => match l0 with
    | [a, b, c, d, e, f, g, h, i] => some [rB (bif !sameD (fwide (detOf a b c d e f g h i)) (fwide (detOf a b c d e f g h i)) then false else true)]
    | _ => none
  | _ => none
theorem ok_laws_FnExactDetOf : SpecOK Try.prog 4 S_laws_FnExactDetOf :=
  auto_ok (Γ := [(12, S_laws_sameFloat), (13, S_spec_DetOf), (14, S_laws_toMap), (15, S_impl_DetOf)]) mixed 12 (ctx_cons ok_laws_sameFloat (ctx_cons ok_spec_DetOf (ctx_cons ok_laws_toMap (ctx_cons ok_impl_DetOf ctx_nil)))) ⟨Try.func4, by kernel_rfl, by kernel_rfl⟩ (by
    intro args r h
    unfold S_laws_FnExactDetOf at h
    split at h
    · obtain ⟨l0, e0, g0⟩ := withFs_spec h; clear h; subst e0
      split at g0
      · cases g0; kernel_rfl
      · cases g0
    · cases h)

end Go.Proofs.Ytiemjpnekapkhaa
