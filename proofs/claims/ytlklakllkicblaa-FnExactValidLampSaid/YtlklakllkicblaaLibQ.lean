/- Small words for closing a row: lengths of argument lists, one list cell at a time. -/
import Derived.Test.YtlklakllkicblaaLibP
namespace Go.Proofs.Ytlklakllkicblaa
open Go Go.RowKit Go.ChangeShapes Go.WideShapes Go.ChangeAt

theorem whole_len {H : Type} {enc : TypeId × Value → H} {P : Program} {ts : List TypeId} {vars : List String} {ap : Bool} {w : World} {vs : List Value} {ds gs : List (DataW H)} {before : List MemPlace} (h : DataW.Whole enc P ts vars ap w vs ds gs before) : vs.length = ts.length := by
  obtain ⟨p, q, hA, _⟩ := h
  exact (trodAll_len hA).1
theorem len_more {α : Type} {l : List α} {n : Nat} (h : l.length = n + 1) : ∃ a t, l = a :: t ∧ t.length = n := by
  cases l with
  | nil => cases h
  | cons a t => exact ⟨a, t, rfl, by simpa using h⟩
theorem len_none {α : Type} {l : List α} (h : l.length = 0) : l = [] := List.eq_nil_of_length_eq_zero h
end Go.Proofs.Ytlklakllkicblaa
