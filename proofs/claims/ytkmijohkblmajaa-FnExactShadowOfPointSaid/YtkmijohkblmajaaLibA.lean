/- Floats up to the bits of a NaN: 'canon k b' is the word b, one word for all NaNs; sums, products, quotients, orders and conversions go through it. -/
import Derived.WalkKit
namespace Go.Proofs.Ytkmijohkblmajaa
open Go

def cnan : FloatKind → Nat
  | .f32 => 0x7fc00000
  | .f64 => 0x7ff8000000000000

def canon (k : FloatKind) (b : Nat) : Nat := if (k.decode b).isNaN then cnan k else b

theorem cnan_nan (k : FloatKind) : (k.decode (cnan k)).isNaN = true := by cases k <;> decide

theorem canon_of_not {k : FloatKind} {b : Nat} (h : (k.decode b).isNaN = false) : canon k b = b := by simp [canon, h]
theorem canon_of_nan {k : FloatKind} {b : Nat} (h : (k.decode b).isNaN = true) : canon k b = cnan k := by simp [canon, h]
theorem canon_canon (k : FloatKind) (b : Nat) : canon k (canon k b) = canon k b := by
  by_cases h : (k.decode b).isNaN = true
  · rw [canon_of_nan h, canon_of_nan (cnan_nan k)]
  · rw [canon_of_not (b := b) (by simpa using h), canon_of_not (by simpa using h)]
theorem canon_isNaN (k : FloatKind) (b : Nat) : (k.decode (canon k b)).isNaN = (k.decode b).isNaN := by
  by_cases h : (k.decode b).isNaN = true
  · rw [canon_of_nan h, cnan_nan, h]
  · rw [canon_of_not (by simpa using h)]
theorem read_isNaN (f : Ieee.Format) (x : Nat) (hb : f.binade ≤ f.infRung) : (f.read x).isNaN = decide (f.infRung < x % f.signWeight) := by
  unfold Ieee.Format.read
  by_cases h1 : x % f.signWeight < f.binade
  · simp only [h1, if_true]; simp [Ieee.Datum.isNaN]; omega
  · by_cases h2 : x % f.signWeight < f.infRung
    · simp only [h1, h2, if_true, if_false]; simp [Ieee.Datum.isNaN]; omega
    · by_cases h3 : x % f.signWeight = f.infRung
      · simp only [h3, if_neg (show ¬ f.infRung < f.binade by omega), if_neg (Nat.lt_irrefl f.infRung), if_true]; simp [Ieee.Datum.isNaN]
      · simp only [h1, h2, h3, if_false]; simp [Ieee.Datum.isNaN]; omega
theorem decode_isNaN (k : FloatKind) (x : Nat) : (k.decode x).isNaN = decide (k.format.infRung < x % k.format.signWeight) :=
  read_isNaN _ _ (by cases k <;> decide)

theorem nan_cases {d : Ieee.Datum} (h : d.isNaN = true) : ∃ s t, d = .nan s t := by
  cases d <;> simp [Ieee.Datum.isNaN] at h; exact ⟨_, _, rfl⟩

theorem sum_nan_l {d e : Ieee.Datum} (h : d.isNaN = true) : d.sum e = none := by
  obtain ⟨s, t, rfl⟩ := nan_cases h; simp [Ieee.Datum.sum]
theorem sum_nan_r {d e : Ieee.Datum} (h : e.isNaN = true) : d.sum e = none := by
  obtain ⟨s, t, rfl⟩ := nan_cases h; cases d <;> simp [Ieee.Datum.sum]
theorem opp_nan {d : Ieee.Datum} : d.opposite.isNaN = d.isNaN := by cases d <;> rfl
theorem product_nan_l {d e : Ieee.Datum} (h : d.isNaN = true) : d.product e = none := by
  obtain ⟨s, t, rfl⟩ := nan_cases h; simp [Ieee.Datum.product]
theorem product_nan_r {d e : Ieee.Datum} (h : e.isNaN = true) : d.product e = none := by
  obtain ⟨s, t, rfl⟩ := nan_cases h; cases d <;> simp [Ieee.Datum.product]
theorem quotient_nan_l {n : Nat} {d e : Ieee.Datum} (h : d.isNaN = true) : Ieee.Datum.quotient n d e = none := by
  obtain ⟨s, t, rfl⟩ := nan_cases h; simp [Ieee.Datum.quotient]
theorem quotient_nan_r {n : Nat} {d e : Ieee.Datum} (h : e.isNaN = true) : Ieee.Datum.quotient n d e = none := by
  obtain ⟨s, t, rfl⟩ := nan_cases h; cases d <;> simp [Ieee.Datum.quotient]
theorem order_nan_l {d e : Ieee.Datum} (h : d.isNaN = true) : d.order e = none := by
  obtain ⟨s, t, rfl⟩ := nan_cases h; simp [Ieee.Datum.order]
theorem order_nan_r {d e : Ieee.Datum} (h : e.isNaN = true) : d.order e = none := by
  obtain ⟨s, t, rfl⟩ := nan_cases h; cases d <;> simp [Ieee.Datum.order]

/-- A function of two words that is 'none' at a NaN goes through 'canon'. -/
theorem through2 {α : Type} {k : FloatKind} (F : Ieee.Datum → Ieee.Datum → Option α) (hl : ∀ d e, d.isNaN = true → F d e = none) (hr : ∀ d e, e.isNaN = true → F d e = none) (x y : Nat) :
    F (k.decode (canon k x)) (k.decode (canon k y)) = F (k.decode x) (k.decode y) := by
  by_cases hx : (k.decode x).isNaN = true
  · rw [hl _ _ hx, hl _ _ (by rw [canon_isNaN]; exact hx)]
  · rw [canon_of_not (b := x) (by simpa using hx)]
    by_cases hy : (k.decode y).isNaN = true
    · rw [hr _ _ hy, hr _ _ (by rw [canon_isNaN]; exact hy)]
    · rw [canon_of_not (b := y) (by simpa using hy)]

theorem add_canon (k : FloatKind) (x y : Nat) : k.format.add (canon k x) (canon k y) = k.format.add x y :=
  through2 (k := k) (fun d e => (d.sum e).map k.format.write) (fun _ _ h => by rw [sum_nan_l h]; rfl) (fun _ _ h => by rw [sum_nan_r h]; rfl) x y
theorem sub_canon (k : FloatKind) (x y : Nat) : k.format.sub (canon k x) (canon k y) = k.format.sub x y :=
  through2 (k := k) (fun d e => (d.sum e.opposite).map k.format.write) (fun _ _ h => by rw [sum_nan_l h]; rfl) (fun _ _ h => by rw [sum_nan_r (by rw [opp_nan]; exact h)]; rfl) x y
theorem mul_canon (k : FloatKind) (x y : Nat) : k.format.mul (canon k x) (canon k y) = k.format.mul x y :=
  through2 (k := k) (fun d e => (d.product e).map k.format.write) (fun _ _ h => by rw [product_nan_l h]; rfl) (fun _ _ h => by rw [product_nan_r h]; rfl) x y
theorem div_canon (k : FloatKind) (x y : Nat) : k.format.div (canon k x) (canon k y) = k.format.div x y :=
  through2 (k := k) (fun d e => (Ieee.Datum.quotient (k.format.fractionBits + 2) d e).map k.format.write) (fun _ _ h => by rw [quotient_nan_l h]; rfl) (fun _ _ h => by rw [quotient_nan_r h]; rfl) x y
theorem order_canon (k : FloatKind) (x y : Nat) : k.format.order (canon k x) (canon k y) = k.format.order x y :=
  through2 (k := k) (fun d e => d.order e) (fun _ _ h => order_nan_l h) (fun _ _ h => order_nan_r h) x y

/-! ### What is written is no NaN -/

theorem read_word_notNaN (k : FloatKind) (neg : Bool) (r : Nat) (h : r ≤ k.format.infRung) : (k.decode (k.format.word neg r)).isNaN = false := by
  have hs : k.format.infRung < k.format.signWeight := by cases k <;> decide
  have hm : k.format.word neg r % k.format.signWeight = r := by
    unfold Ieee.Format.word
    split
    · rw [Nat.add_mod_left, Nat.mod_eq_of_lt (by omega)]
    · rw [Nat.mod_eq_of_lt (by omega)]
  rw [decode_isNaN, hm]; simp; omega

theorem nearest_notNaN (k : FloatKind) (neg : Bool) (m : Nat) (p : Int) : (k.decode (k.format.nearest neg m p)).isNaN = false := by
  unfold Ieee.Format.nearest
  split
  · exact read_word_notNaN k neg 0 (Nat.zero_le _)
  · exact read_word_notNaN k neg _ (Nat.min_le_right _ _)

theorem write_notNaN (k : FloatKind) (d : Ieee.Datum) (h : d.isNaN = false) : (k.decode (k.format.write d)).isNaN = false := by
  cases d with
  | number s m e => exact nearest_notNaN k s m e
  | infinity s => exact read_word_notNaN k s _ (Nat.le_refl _)
  | nan s t => simp [Ieee.Datum.isNaN] at h

theorem sum_notNaN {d e r : Ieee.Datum} (h : d.sum e = some r) : r.isNaN = false := by
  cases d <;> cases e <;> simp only [Ieee.Datum.sum] at h <;> (try split at h) <;> (try cases h) <;> (try rfl)
theorem product_notNaN {d e r : Ieee.Datum} (h : d.product e = some r) : r.isNaN = false := by
  cases d <;> cases e <;> simp only [Ieee.Datum.product] at h <;> (try split at h) <;> (try cases h) <;> (try rfl)
theorem quotient_notNaN {n : Nat} {d e r : Ieee.Datum} (h : Ieee.Datum.quotient n d e = some r) : r.isNaN = false := by
  cases d <;> cases e <;> simp only [Ieee.Datum.quotient] at h <;> (try split at h) <;> (try split at h) <;> (try cases h) <;> (try rfl)

theorem map_write_canon {k : FloatKind} {o : Option Ieee.Datum} {r : Nat} (ho : ∀ d, o = some d → d.isNaN = false) (h : o.map k.format.write = some r) : canon k r = r := by
  cases o with
  | none => cases h
  | some d => cases h; exact canon_of_not (write_notNaN k d (ho d rfl))

/-! ### The operations on canonical words -/

def fadd (k : FloatKind) (x y : Nat) : Nat := (k.format.add x y).getD (cnan k)
def fsub (k : FloatKind) (x y : Nat) : Nat := (k.format.sub x y).getD (cnan k)
def fmul (k : FloatKind) (x y : Nat) : Nat := (k.format.mul x y).getD (cnan k)
def fdiv (k : FloatKind) (x y : Nat) : Nat := (k.format.div x y).getD (cnan k)
def flt (k : FloatKind) (x y : Nat) : Bool := k.format.order x y == some .lt
def fle (k : FloatKind) (x y : Nat) : Bool := k.format.order x y == some .lt || k.format.order x y == some .eq
def fgt (k : FloatKind) (x y : Nat) : Bool := k.format.order x y == some .gt
def fge (k : FloatKind) (x y : Nat) : Bool := k.format.order x y == some .gt || k.format.order x y == some .eq
def feq (k : FloatKind) (x y : Nat) : Bool := k.format.order x y == some .eq
def fne (k : FloatKind) (x y : Nat) : Bool := k.format.order x y != some .eq
def isNaN (k : FloatKind) (x : Nat) : Bool := (k.decode x).isNaN

theorem fadd_canon (k : FloatKind) (x y : Nat) : fadd k (canon k x) (canon k y) = fadd k x y := by unfold fadd; rw [add_canon]
theorem fsub_canon (k : FloatKind) (x y : Nat) : fsub k (canon k x) (canon k y) = fsub k x y := by unfold fsub; rw [sub_canon]
theorem fmul_canon (k : FloatKind) (x y : Nat) : fmul k (canon k x) (canon k y) = fmul k x y := by unfold fmul; rw [mul_canon]
theorem fdiv_canon (k : FloatKind) (x y : Nat) : fdiv k (canon k x) (canon k y) = fdiv k x y := by unfold fdiv; rw [div_canon]

theorem canon_cnan (k : FloatKind) : canon k (cnan k) = cnan k := canon_of_nan (cnan_nan k)

theorem add_some_canon {k : FloatKind} {x y r : Nat} (h : k.format.add x y = some r) : canon k r = r := map_write_canon (fun _ h => sum_notNaN h) h
theorem sub_some_canon {k : FloatKind} {x y r : Nat} (h : k.format.sub x y = some r) : canon k r = r := map_write_canon (fun _ h => sum_notNaN h) h
theorem mul_some_canon {k : FloatKind} {x y r : Nat} (h : k.format.mul x y = some r) : canon k r = r := map_write_canon (fun _ h => product_notNaN h) h
theorem div_some_canon {k : FloatKind} {x y r : Nat} (h : k.format.div x y = some r) : canon k r = r := map_write_canon (fun _ h => quotient_notNaN h) h

/-- The words that a NaN's draw gives. -/
theorem cut_nanBits_nan (k : FloatKind) (x y t : Nat) : (k.decode ((Question.nanBits k x y).cut t)).isNaN = true := by
  cases k
  · have hlt : 0x7f800000 + 1 + (t / 2) % (2 ^ 23 - 1) < 2 ^ 31 := by have := Nat.mod_lt (t / 2) (show 0 < 2 ^ 23 - 1 by decide); omega
    have hm : ((t % 2) * 2 ^ 31 + 0x7f800000 + 1 + (t / 2) % (2 ^ 23 - 1)) % 2 ^ 31 = 0x7f800000 + 1 + (t / 2) % (2 ^ 23 - 1) := by omega
    rw [decode_isNaN]
    show decide (0x7f800000 < ((t % 2) * 2 ^ 31 + 0x7f800000 + 1 + (t / 2) % (2 ^ 23 - 1)) % 2 ^ 31) = true
    rw [hm]; simp; omega
  · have hlt : 0x7ff0000000000000 + 1 + (t / 2) % (2 ^ 52 - 1) < 2 ^ 63 := by have := Nat.mod_lt (t / 2) (show 0 < 2 ^ 52 - 1 by decide); omega
    have hm : ((t % 2) * 2 ^ 63 + 0x7ff0000000000000 + 1 + (t / 2) % (2 ^ 52 - 1)) % 2 ^ 63 = 0x7ff0000000000000 + 1 + (t / 2) % (2 ^ 52 - 1) := by omega
    rw [decode_isNaN]
    show decide (0x7ff0000000000000 < ((t % 2) * 2 ^ 63 + 0x7ff0000000000000 + 1 + (t / 2) % (2 ^ 52 - 1)) % 2 ^ 63) = true
    rw [hm]; simp; omega
theorem cut_nanConv_nan (k : FloatKind) (x t : Nat) : (k.decode ((Question.nanConv k x).cut t)).isNaN = true := by
  have h := cut_nanBits_nan k 0 0 t
  cases k <;> exact h

/-- The sum of two words, as the machine makes it: its world is the old one, or that behind a draw. -/
def drawnOn (w w' : World) : Prop := w' = w ∨ w' = { w with drawn := w.drawn + 1 }

theorem run_arith {P : Program} {k : FloatKind} {x y : Nat} {o : Option Nat} {w : World} (hc : ∀ r, o = some r → canon k r = r) :
    ∃ b w', ((match o with | some r => (pure (Value.float k r) : Sem Value) | none => do pure (.float k (← choose (.nanBits k x y)))).run P w = .ok (.float k b) w') ∧ canon k b = o.getD (cnan k) ∧ drawnOn w w' := by
  cases o with
  | some r => exact ⟨r, w, rfl, hc r rfl, .inl rfl⟩
  | none =>
    refine ⟨(Question.nanBits k x y).cut (w.tape w.drawn (.nanBits k x y)), { w with drawn := w.drawn + 1 }, rfl, canon_of_nan (cut_nanBits_nan k x y _), .inr rfl⟩

theorem run_add {P : Program} {k : FloatKind} {x y : Nat} {w : World} : ∃ b w', (Op.floatArith .add k x y).run P w = .ok (.float k b) w' ∧ canon k b = fadd k (canon k x) (canon k y) ∧ drawnOn w w' := by
  rw [fadd_canon]; exact run_arith (x := x) (y := y) (o := k.format.add x y) (fun _ h => add_some_canon h)
theorem run_sub {P : Program} {k : FloatKind} {x y : Nat} {w : World} : ∃ b w', (Op.floatArith .sub k x y).run P w = .ok (.float k b) w' ∧ canon k b = fsub k (canon k x) (canon k y) ∧ drawnOn w w' := by
  rw [fsub_canon]; exact run_arith (x := x) (y := y) (o := k.format.sub x y) (fun _ h => sub_some_canon h)
theorem run_mul {P : Program} {k : FloatKind} {x y : Nat} {w : World} : ∃ b w', (Op.floatArith .mul k x y).run P w = .ok (.float k b) w' ∧ canon k b = fmul k (canon k x) (canon k y) ∧ drawnOn w w' := by
  rw [fmul_canon]; exact run_arith (x := x) (y := y) (o := k.format.mul x y) (fun _ h => mul_some_canon h)
theorem run_quo {P : Program} {k : FloatKind} {x y : Nat} {w : World} : ∃ b w', (Op.floatArith .quo k x y).run P w = .ok (.float k b) w' ∧ canon k b = fdiv k (canon k x) (canon k y) ∧ drawnOn w w' := by
  rw [fdiv_canon]; exact run_arith (x := x) (y := y) (o := k.format.div x y) (fun _ h => div_some_canon h)

end Go.Proofs.Ytkmijohkblmajaa
