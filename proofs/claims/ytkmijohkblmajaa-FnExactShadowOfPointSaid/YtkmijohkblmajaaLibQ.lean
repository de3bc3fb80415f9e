/- Small words for closing a row: lengths of argument lists, one list cell at a time. -/
import Derived.Test.YtkmijohkblmajaaLibP
namespace Go.Proofs.Ytkmijohkblmajaa
open Go Go.RowKit Go.ChangeShapes Go.WideShapes Go.ChangeAt

theorem whole_len {H : Type} {enc : TypeId × Value → H} {P : Program} {ts : List TypeId} {vars : List String} {ap : Bool} {w : World} {vs : List Value} {ds gs : List (DataW H)} {before : List MemPlace} (h : DataW.Whole enc P ts vars ap w vs ds gs before) : vs.length = ts.length := by
  obtain ⟨p, q, hA, _⟩ := h
  exact (trodAll_len hA).1
theorem len_more {α : Type} {l : List α} {n : Nat} (h : l.length = n + 1) : ∃ a t, l = a :: t ∧ t.length = n := by
  cases l with
  | nil => cases h
  | cons a t => exact ⟨a, t, rfl, by simpa using h⟩
theorem len_none {α : Type} {l : List α} (h : l.length = 0) : l = [] := List.eq_nil_of_length_eq_zero h

/-- A function that answers one of two indexes. -/
theorem SpecOK.ix {P : Program} {f : FuncId} {s s' : Spec} (h : SpecOK P f s) (hs : ∀ args r, s' args = some r → ∃ (β : Bool) (m n B : Nat), r = [.s (.c (.ix (bif β then m else n) B))] ∧ m < B ∧ n < B ∧ s args = some [.s (.c (.i .i64 (bif β then (m : Int) else (n : Int))))]) : SpecOK P f s' := by
  intro args r hr vs w hv
  obtain ⟨β, m, n, B, rfl, h1, h2, h3⟩ := hs args r hr
  have := h args _ h3 vs w hv
  have hup : ∀ (u : Value) (w' : World), ((toAV [AE.s (.c (.i .i64 (bif β then (m : Int) else (n : Int))))]).den (EF w.heap.size) u w' ∧ Below w.heap.size w w') →
      (toAV [AE.s (.c (.ix (bif β then m else n) B))]).den (EF w.heap.size) u w' ∧ Below w.heap.size w w' := by
    rintro u w' ⟨hd, hb⟩
    refine ⟨?_, hb⟩
    have hd : u = .int .i64 (bif β then (m : Int) else (n : Int)) := hd
    subst hd
    cases β
    · exact ⟨rfl, h2⟩
    · exact ⟨rfl, h1⟩
  unfold CallsTo at this ⊢
  split at this
  · exact this.mono fun e w' ⟨u, he, hu⟩ => ⟨u, he, hup _ _ hu⟩
  · exact hup _ _ this
  · exact this.elim
end Go.Proofs.Ytkmijohkblmajaa
