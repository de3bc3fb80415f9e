/- Words for the contracts of single functions. -/
import Derived.Test.YtkmijohkblmajaaLibO
import Derived.KernelRfl
namespace Go.Proofs.Ytkmijohkblmajaa
open Go Go.RowKit

def getF : AS → Option Nat
  | .c (.f .f32 x) => some x
  | _ => none
def getFs (xs : List AS) : Option (List Nat) := mapO getF xs
def fsL (l : List Nat) : List AS := l.map fun x => .c (.f .f32 x)
def withFs (xs : List AS) (k : List Nat → Option (List AE)) : Option (List AE) := (getFs xs).bind k
abbrev rF (x : Nat) : AE := .s (.c (.f .f32 x))
abbrev rD (x : Nat) : AE := .s (.c (.f .f64 x))
abbrev rB (x : Bool) : AE := .s (.c (.b x))
abbrev rI (x : Int) : AE := .s (.c (.i .i64 x))
abbrev rA (l : List Nat) : AE := .agg (fsL l)

theorem getF_spec {x : AS} {y : Nat} (h : getF x = some y) : x = .c (.f .f32 y) := by
  unfold getF at h; split at h <;> cases h; rfl
theorem getFs_spec : ∀ {xs : List AS} {l : List Nat}, getFs xs = some l → xs = fsL l
  | [], l, h => by cases h; rfl
  | x :: xs, l, h => by
    unfold getFs at h
    simp only [mapO] at h
    split at h
    · rename_i y ys e1 e2
      cases h
      rw [getF_spec e1, getFs_spec (show getFs xs = some ys from e2)]
      rfl
    · cases h
theorem withFs_spec {xs : List AS} {k : List Nat → Option (List AE)} {r : List AE} (h : withFs xs k = some r) : ∃ l, xs = fsL l ∧ k l = some r := by
  obtain ⟨l, h1, h2⟩ := Option.bind_eq_some_iff.1 h
  exact ⟨l, getFs_spec h1, h2⟩

theorem ctx_nil {P : Program} : Ctx.OK P [] := fun _ h => by cases h
theorem ctx_cons {P : Program} {f : FuncId} {s : Spec} {Γ : Ctx} (h : SpecOK P f s) (hs : Ctx.OK P Γ) : Ctx.OK P ((f, s) :: Γ) := fun p hp => by
  rcases List.mem_cons.1 hp with rfl | hp
  · exact h
  · exact hs p hp

theorem auto_ok {P : Program} {Γ : Ctx} (hm : P.follows .mixedOrders = true) {f : FuncId} {fn : Func} {s : Spec} (L : Nat) (hΓ : Γ.OK P) (he : Enters P f fn) (h : ∀ args r, s args = some r → funcSpec P Γ L fn args = some r) : SpecOK P f s :=
  SpecOK.of_le (func_sound hΓ hm L he) h

/-- n floats of the narrow kind, as an argument. -/
theorem kinds_floats {P : Program} {u : TypeId} (hu : P.underlying u = some (.float .f32)) : ∀ {n : Nat} {xs : List AC}, Each (Kind P) (List.replicate n u) xs → ∃ l : List Nat, xs = l.map (fun x => .f .f32 x) ∧ l.length = n ∧ ∀ x ∈ l, canon .f32 x = x ∧ x < 2 ^ 32
  | 0, xs, h => by cases h; exact ⟨[], rfl, rfl, fun _ h => by cases h⟩
  | n + 1, xs, h => by
    rw [List.replicate_succ] at h
    cases h with
    | cons h1 h2 =>
      rename_i x xs
      obtain ⟨l, rfl, hl, hc⟩ := kinds_floats hu h2
      unfold Kind at h1
      rw [hu] at h1
      cases x <;> simp at h1
      rename_i k y
      obtain ⟨rfl, hy, hlt⟩ := h1
      refine ⟨y :: l, rfl, by simp [hl], fun z hz => ?_⟩
      rcases List.mem_cons.1 hz with rfl | hz
      · exact ⟨hy, hlt⟩
      · exact hc z hz

theorem open_floats {P : Program} {w : World} {base n : Nat} {t u : TypeId} {v : Value} (hu : P.underlying u = some (.float .f32)) (hc : cellsT P t = some (true, List.replicate n u)) (h : Value.okWide P w .any base t v) :
    ∃ l : List Nat, l.length = n ∧ (∀ x ∈ l, canon .f32 x = x ∧ x < 2 ^ 32) ∧ AArg.den w (.v (.agg (fsL l))) v := by
  obtain ⟨xs, h1, h2⟩ := open_arg hc h
  obtain ⟨l, rfl, hl, hcn⟩ := kinds_floats hu h1
  simp only [if_true] at h2
  refine ⟨l, hl, hcn, ?_⟩
  have : fsL l = (l.map (fun x => AC.f .f32 x)).map AS.c := by simp [fsL]
  show (AE.agg (fsL l)).den E0 v w
  rw [this]; exact h2
theorem open_float {P : Program} {w : World} {base : Nat} {t : TypeId} {v : Value} (hu : P.underlying t = some (.float .f32)) (hc : cellsT P t = some (false, [t])) (h : Value.okWide P w .any base t v) :
    ∃ x : Nat, (canon .f32 x = x ∧ x < 2 ^ 32) ∧ AArg.den w (.v (rF x)) v := by
  obtain ⟨xs, h1, h2⟩ := open_arg hc h
  obtain ⟨l, rfl, hl, hcn⟩ := kinds_floats (n := 1) hu h1
  simp only [Bool.false_eq_true, if_false] at h2
  obtain ⟨x, e, hd⟩ := h2
  match l, hl with
  | [y], _ =>
    simp at e; subst e
    exact ⟨y, hcn y (by simp), hd⟩

end Go.Proofs.Ytkmijohkblmajaa
