/- Rows of mixed kinds: narrow numbers, bools, whole numbers. -/
import Derived.Test.YtkmijohkblmajaaLibS
namespace Go.Proofs.Ytkmijohkblmajaa
open Go Go.RowKit

inductive CK where
  | f | b | i
def mixC : List CK → List Nat → List Bool → List Int → List AC
  | .f :: ks, x :: fl, bl, il => .f .f32 x :: mixC ks fl bl il
  | .b :: ks, fl, x :: bl, il => .b x :: mixC ks fl bl il
  | .i :: ks, fl, bl, x :: il => .i .i64 x :: mixC ks fl bl il
  | _, _, _, _ => []
def mixL (ks : List CK) (fl : List Nat) (bl : List Bool) (il : List Int) : List AS := (mixC ks fl bl il).map .c
def getM : List CK → List AS → Option (List Nat × List Bool × List Int)
  | [], [] => some ([], [], [])
  | .f :: ks, .c (.f .f32 x) :: r => (getM ks r).map fun p => (x :: p.1, p.2.1, p.2.2)
  | .b :: ks, .c (.b x) :: r => (getM ks r).map fun p => (p.1, x :: p.2.1, p.2.2)
  | .i :: ks, .c (.i .i64 x) :: r => (getM ks r).map fun p => (p.1, p.2.1, x :: p.2.2)
  | _, _ => none
theorem getM_spec : ∀ {ks : List CK} {xs : List AS} {fl : List Nat} {bl : List Bool} {il : List Int}, getM ks xs = some (fl, bl, il) → xs = mixL ks fl bl il
  | [], [], _, _, _, h => by cases h; rfl
  | k :: ks, x :: xs, fl, bl, il, h => by
    unfold getM at h
    split at h
    · rename_i e; cases e
    all_goals first
      | (rename_i ks' y r e1 e2
         cases e1; cases e2
         obtain ⟨⟨p1, p2, p3⟩, h1, h2⟩ := Option.map_eq_some_iff.1 h
         cases h2
         rw [getM_spec h1]; rfl)
      | cases h
  | [], _ :: _, _, _, _, h => by cases h
  | k :: _, [], _, _, _, h => by cases k <;> cases h
def withM (ks : List CK) (xs : List AS) (k : List Nat → List Bool → List Int → Option (List AE)) : Option (List AE) := (getM ks xs).bind fun p => k p.1 p.2.1 p.2.2
theorem withM_spec {ks : List CK} {xs : List AS} {k : List Nat → List Bool → List Int → Option (List AE)} {r : List AE} (h : withM ks xs k = some r) : ∃ fl bl il, xs = mixL ks fl bl il ∧ k fl bl il = some r := by
  obtain ⟨⟨p1, p2, p3⟩, h1, h2⟩ := Option.bind_eq_some_iff.1 h
  exact ⟨p1, p2, p3, getM_spec h1, h2⟩

def nF : List CK → Nat
  | [] => 0
  | .f :: r => nF r + 1
  | _ :: r => nF r
def nB : List CK → Nat
  | [] => 0
  | .b :: r => nB r + 1
  | _ :: r => nB r
def nI : List CK → Nat
  | [] => 0
  | .i :: r => nI r + 1
  | _ :: r => nI r
def CK.of (P : Program) (u : TypeId) : CK → Bool
  | .f => match P.underlying u with | some (.float .f32) => true | _ => false
  | .b => match P.underlying u with | some .bool => true | _ => false
  | .i => match P.underlying u with | some (.int .i64) => true | _ => false
def ckAll (P : Program) : List CK → List TypeId → Bool
  | [], [] => true
  | k :: ks, t :: ts => k.of P t && ckAll P ks ts
  | _, _ => false

theorem kinds_mixed {P : Program} : ∀ {ks : List CK} {ts : List TypeId} {xs : List AC}, ckAll P ks ts = true → Each (Kind P) ts xs →
    ∃ fl bl il, xs = mixC ks fl bl il ∧ fl.length = nF ks ∧ bl.length = nB ks ∧ il.length = nI ks ∧ (∀ x ∈ fl, canon .f32 x = x ∧ x < 2 ^ 32) ∧ (∀ x ∈ il, IntKind.i64.has x)
  | [], [], xs, _, h => by cases h; exact ⟨[], [], [], rfl, rfl, rfl, rfl, (fun _ h => by cases h), (fun _ h => by cases h)⟩
  | [], _ :: _, _, h, _ => by cases h
  | _ :: _, [], _, h, _ => by cases h
  | k :: ks, t :: ts, xs, hk, h => by
    unfold ckAll at hk
    rw [Bool.and_eq_true] at hk
    cases h with
    | cons h1 h2 =>
      rename_i x xs
      obtain ⟨fl, bl, il, rfl, e1, e2, e3, hc, hi⟩ := kinds_mixed hk.2 h2
      have h0 := hk.1
      unfold CK.of at h0
      unfold Kind at h1
      split at h0
      · split at h0
        · rename_i e; rw [e] at h1
          cases x <;> simp at h1
          rename_i k y
          obtain ⟨rfl, hy, hlt⟩ := h1
          refine ⟨y :: fl, bl, il, rfl, by simp [nF, e1], e2, e3, fun z hz => ?_, hi⟩
          rcases List.mem_cons.1 hz with rfl | hz
          · exact ⟨hy, hlt⟩
          · exact hc z hz
        · cases h0
      · split at h0
        · rename_i e; rw [e] at h1
          cases x <;> simp at h1
          rename_i y
          exact ⟨fl, y :: bl, il, rfl, e1, by simp [nB, e2], e3, hc, hi⟩
        · cases h0
      · split at h0
        · rename_i e; rw [e] at h1
          cases x <;> simp at h1
          rename_i k y
          obtain ⟨rfl, hy⟩ := h1
          refine ⟨fl, bl, y :: il, rfl, e1, e2, by simp [nI, e3], hc, fun z hz => ?_⟩
          rcases List.mem_cons.1 hz with rfl | hz
          · exact hy
          · exact hi z hz
        · cases h0

theorem open_mixed {P : Program} {w : World} {base : Nat} {t : TypeId} {ts : List TypeId} {v : Value} (ks : List CK) (hc : cellsT P t = some (true, ts)) (hk : ckAll P ks ts = true) (h : Value.okWide P w .any base t v) :
    ∃ fl bl il, fl.length = nF ks ∧ bl.length = nB ks ∧ il.length = nI ks ∧ (∀ x ∈ fl, canon .f32 x = x ∧ x < 2 ^ 32) ∧ (∀ x ∈ il, IntKind.i64.has x) ∧ AArg.den w (.v (.agg (mixL ks fl bl il))) v := by
  obtain ⟨xs, h1, h2⟩ := open_arg hc h
  obtain ⟨fl, bl, il, rfl, e1, e2, e3, hcn, hi⟩ := kinds_mixed hk h1
  simp only [if_true] at h2
  exact ⟨fl, bl, il, e1, e2, e3, hcn, hi, h2⟩
theorem open_bool {P : Program} {w : World} {base : Nat} {t : TypeId} {v : Value} (hu : P.underlying t = some .bool) (hc : cellsT P t = some (false, [t])) (h : Value.okWide P w .any base t v) :
    ∃ x : Bool, AArg.den w (.v (rB x)) v := by
  obtain ⟨xs, h1, h2⟩ := open_arg hc h
  simp only [Bool.false_eq_true, if_false] at h2
  obtain ⟨x, rfl, hd⟩ := h2
  cases h1 with
  | cons h1 _ =>
    unfold Kind at h1
    rw [hu] at h1
    cases x <;> simp at h1
    exact ⟨_, hd⟩
theorem open_int {P : Program} {w : World} {base : Nat} {t : TypeId} {v : Value} (hu : P.underlying t = some (.int .i64)) (hc : cellsT P t = some (false, [t])) (h : Value.okWide P w .any base t v) :
    ∃ x : Int, IntKind.i64.has x ∧ AArg.den w (.v (rI x)) v := by
  obtain ⟨xs, h1, h2⟩ := open_arg hc h
  simp only [Bool.false_eq_true, if_false] at h2
  obtain ⟨x, rfl, hd⟩ := h2
  cases h1 with
  | cons h1 _ =>
    unfold Kind at h1
    rw [hu] at h1
    cases x <;> simp at h1
    obtain ⟨rfl, h1⟩ := h1
    exact ⟨_, h1, hd⟩

end Go.Proofs.Ytkmijohkblmajaa
