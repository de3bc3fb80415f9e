/- Narrow numbers as whole multiples of two to the -149: orders, finiteness, sums. -/
import Derived.Test.YtkmijohkblmajaaLibU
namespace Go.Proofs.Ytkmijohkblmajaa
open Go Go.RowKit

/-- A number in units of 2 ^ -149. -/
def uval (s : Bool) (m : Nat) (e : Int) : Int := Ieee.signed s m (e + 149).toNat

theorem signed_eq (s : Bool) (m k : Nat) : Ieee.signed s m k = (if s then -1 else 1) * ((m * 2 ^ k : Nat) : Int) := by
  unfold Ieee.signed; rw [Nat.shiftLeft_eq]; cases s <;> simp
theorem signed_add (s : Bool) (m k l : Nat) : Ieee.signed s m (k + l) = Ieee.signed s m k * ((2 ^ l : Nat) : Int) := by
  rw [signed_eq, signed_eq, Nat.pow_add, ← Nat.mul_assoc, Int.natCast_mul (m * 2 ^ k), Int.mul_assoc]
theorem compare_mul (a b : Int) (l : Nat) : compare (a * ((2 ^ l : Nat) : Int)) (b * ((2 ^ l : Nat) : Int)) = compare a b := by
  have hp : (0 : Int) < ((2 ^ l : Nat) : Int) := by have := Nat.two_pow_pos l; omega
  rcases Int.lt_trichotomy a b with h | h | h
  · rw [Int.compare_eq_lt.2 h, Int.compare_eq_lt.2 (Int.mul_lt_mul_of_pos_right h hp)]
  · subst h; rw [Int.compare_eq_eq.2 rfl, Int.compare_eq_eq.2 rfl]
  · rw [Int.compare_eq_gt.2 h, Int.compare_eq_gt.2 (Int.mul_lt_mul_of_pos_right h hp)]
theorem order_val {s t : Bool} {m n : Nat} {e j : Int} (he : -149 ≤ e) (hj : -149 ≤ j) : Ieee.Datum.order (.number s m e) (.number t n j) = some (compare (uval s m e) (uval t n j)) := by
  simp only [Ieee.Datum.order]
  have h1 : (e + 149).toNat = (e - min e j).toNat + (min e j + 149).toNat := by omega
  have h2 : (j + 149).toNat = (j - min e j).toNat + (min e j + 149).toNat := by omega
  unfold uval
  rw [h1, h2, signed_add, signed_add, compare_mul]

/-- What a word of a finite number weighs. -/
def fval (x : Nat) : Option Int := match FloatKind.f32.decode x with
  | .number s m e => some (uval s m e)
  | _ => none
theorem fval_number {x : Nat} {s : Bool} {m : Nat} {e : Int} (h : FloatKind.f32.decode x = .number s m e) : fval x = some (uval s m e) := by unfold fval; rw [h]
theorem fval_some {x : Nat} {a : Int} (h : fval x = some a) : ∃ s m e, FloatKind.f32.decode x = .number s m e ∧ NormS m e ∧ uval s m e = a := by
  unfold fval at h
  cases hd : FloatKind.f32.decode x with
  | nan s t => rw [hd] at h; cases h
  | infinity s => rw [hd] at h; cases h
  | number s m e => rw [hd] at h; cases h; exact ⟨s, m, e, rfl, normS hd, rfl⟩
theorem order_fval {x y : Nat} {a b : Int} (hx : fval x = some a) (hy : fval y = some b) : FloatKind.f32.format.order x y = some (compare a b) := by
  obtain ⟨s, m, e, h1, hn1, rfl⟩ := fval_some hx
  obtain ⟨t, n, j, h2, hn2, rfl⟩ := fval_some hy
  rw [order_def, h1, h2, order_val hn1.2.1 hn2.2.1]

/-- A sum, before it is written. -/
theorem sum_val {s t : Bool} {m n : Nat} {e j : Int} (he : -149 ≤ e) (hj : -149 ≤ j) : ∃ q M, -149 ≤ (min e j) ∧ Ieee.Datum.sum (.number s m e) (.number t n j) = some (.number q M (min e j)) ∧ uval q M (min e j) = uval s m e + uval t n j := by
  simp only [Ieee.Datum.sum]
  refine ⟨_, _, by omega, rfl, ?_⟩
  have h1 : (e + 149).toNat = (e - min e j).toNat + (min e j + 149).toNat := by omega
  have h2 : (j + 149).toNat = (j - min e j).toNat + (min e j + 149).toNat := by omega
  unfold uval
  rw [h1, h2, signed_add, signed_add, ← Int.add_mul]
  generalize Ieee.signed s m (e - min e j).toNat + Ieee.signed t n (j - min e j).toNat = T
  have h3 : ∀ q M, Ieee.signed q M (min e j + 149).toNat = Ieee.signed q M 0 * ((2 ^ (min e j + 149).toNat : Nat) : Int) := fun q M => by
    rw [← signed_add, Nat.zero_add]
  rw [h3]
  congr 1
  rw [signed_eq]
  by_cases hT : T = 0
  · subst hT; simp
  · rw [if_neg hT]
    by_cases hneg : T < 0
    · simp [hneg]; omega
    · simp [hneg]; omega

/-- What weighs little stays finite when it is written. -/
theorem write_small {s : Bool} {m : Nat} {e : Int} (he : -149 ≤ e) (h : m * 2 ^ (e + 149).toNat < 2 ^ 270) : ∃ t n j, FloatKind.f32.decode (FloatKind.f32.encode (.number s m e)) = .number t n j := by
  have key : (FloatKind.f32.decode (FloatKind.f32.encode (.number s m e))).isInfinity = false := by
    show (FloatKind.f32.decode (FloatKind.f32.format.nearest s m e)).isInfinity = false
    unfold Ieee.Format.nearest
    by_cases h0 : m = 0
    · rw [if_pos h0]; exact word_isInfinity (by rw [s_inf]; omega)
    · rw [if_neg h0, s_frac, s_least, s_bin, s_inf]
      dsimp only
      refine word_isInfinity (Nat.lt_of_le_of_lt (Nat.min_le_left _ _) ?_)
      rw [s_inf]
      have hlog : m.log2 + (e + 149).toNat < 270 := by
        have h1 := Nat.mul_le_mul_right (2 ^ (e + 149).toNat) (Nat.log2_self_le h0)
        rw [← Nat.pow_add] at h1
        exact (Nat.pow_lt_pow_iff_right (by decide)).1 (Nat.lt_of_le_of_lt h1 h)
      generalize hlast : max (e + (m.log2 : Int) - ((23 : Nat) : Int)) (-149) = last
      have hkept : Ieee.Toward.even.cut s (m <<< (e - last).toNat) (last - e).toNat ≤ 2 ^ 24 := by
        by_cases hge : last ≤ e
        · have hz : (last - e).toNat = 0 := by omega
          rw [hz, cut_zero, Nat.shiftLeft_eq]
          have : m * 2 ^ (e - last).toNat < 2 ^ 24 := by
            calc m * 2 ^ (e - last).toNat < 2 ^ (m.log2 + 1) * 2 ^ (e - last).toNat := Nat.mul_lt_mul_of_pos_right Nat.lt_log2_self (Nat.two_pow_pos _)
              _ = 2 ^ (m.log2 + 1 + (e - last).toNat) := by rw [← Nat.pow_add]
              _ ≤ 2 ^ 24 := Nat.pow_le_pow_right (by decide) (by omega)
          omega
        · have hz : (e - last).toNat = 0 := by omega
          rw [hz, Nat.shiftLeft_zero]
          unfold Ieee.Toward.cut
          dsimp only
          rw [Nat.one_shiftLeft]
          have hlow : m / 2 ^ min (last - e).toNat (m.log2 + 2) < 2 ^ 24 := by
            rw [Nat.div_lt_iff_lt_mul (Nat.two_pow_pos _), ← Nat.pow_add]
            have hb : m.log2 + 1 ≤ 24 + min (last - e).toNat (m.log2 + 2) := by omega
            exact Nat.lt_of_lt_of_le Nat.lt_log2_self (Nat.pow_le_pow_right (by decide) hb)
          have h2 : ∀ b : Bool, b.toNat ≤ 1 := by intro b; cases b <;> decide
          have := h2 (decide (2 ^ min (last - e).toNat (m.log2 + 2) < 2 * (m % 2 ^ min (last - e).toNat (m.log2 + 2))) || (2 ^ min (last - e).toNat (m.log2 + 2) == 2 * (m % 2 ^ min (last - e).toNat (m.log2 + 2)) && m / 2 ^ min (last - e).toNat (m.log2 + 2) % 2 == 1))
          omega
      generalize Ieee.Toward.even.cut s (m <<< (e - last).toNat) (last - e).toNat = kept at *
      have hq : (last - -149).toNat ≤ 250 := by omega
      have := Nat.mul_le_mul_right (2 ^ 23) hq
      omega
  have hn := write_notNaN .f32 (.number s m e) rfl
  cases hd : FloatKind.f32.decode (FloatKind.f32.encode (.number s m e)) with
  | nan s t => rw [show FloatKind.f32.format.write (.number _ m e) = FloatKind.f32.encode (.number _ m e) from rfl, hd] at hn; cases hn
  | infinity s => rw [hd] at key; cases key
  | number s m e => exact ⟨_, _, _, rfl⟩

theorem opposite_read {x : Nat} {s : Bool} {m : Nat} {e : Int} (h : FloatKind.f32.decode x = .number s m e) : (FloatKind.f32.format.read x).opposite = .number (!s) m e := by
  have : FloatKind.f32.format.read x = .number s m e := h
  rw [this]; rfl
theorem uval_not (s : Bool) (m : Nat) (e : Int) : uval (!s) m e = -uval s m e := by
  unfold uval; rw [signed_eq, signed_eq]; cases s <;> simp

theorem uval_abs (s : Bool) (m : Nat) (e : Int) : (uval s m e).natAbs = m * 2 ^ (e + 149).toNat := by
  unfold uval; rw [signed_eq]
  cases s
  · simp only [Bool.false_eq_true, if_false, Int.one_mul, Int.natAbs_natCast]
  · simp only [if_true, Int.neg_mul, Int.one_mul, Int.natAbs_neg, Int.natAbs_natCast]

/-- Sums and differences of what weighs little are finite. -/
theorem add_fin {x y : Nat} {a b : Int} (hx : fval x = some a) (hy : fval y = some b) (h : (a + b).natAbs < 2 ^ 270) : ∃ c, fval (fadd .f32 x y) = some c := by
  obtain ⟨s, m, e, h1, hn1, rfl⟩ := fval_some hx
  obtain ⟨t, n, j, h2, hn2, rfl⟩ := fval_some hy
  obtain ⟨q, M, hb, h3, h4⟩ := sum_val (s := s) (t := t) (m := m) (n := n) hn1.2.1 hn2.2.1
  have hf : fadd .f32 x y = FloatKind.f32.encode (.number q M (min e j)) := by
    unfold fadd Ieee.Format.add
    rw [show FloatKind.f32.format.read x = _ from h1, show FloatKind.f32.format.read y = _ from h2, h3]; rfl
  rw [← h4, uval_abs] at h
  obtain ⟨t', n', j', hd⟩ := write_small (s := q) hb h
  exact ⟨_, by rw [hf]; exact fval_number hd⟩
theorem sub_fin {x y : Nat} {a b : Int} (hx : fval x = some a) (hy : fval y = some b) (h : (a - b).natAbs < 2 ^ 270) : ∃ c, fval (fsub .f32 x y) = some c := by
  obtain ⟨s, m, e, h1, hn1, rfl⟩ := fval_some hx
  obtain ⟨t, n, j, h2, hn2, rfl⟩ := fval_some hy
  obtain ⟨q, M, hb, h3, h4⟩ := sum_val (s := s) (t := !t) (m := m) (n := n) hn1.2.1 hn2.2.1
  have hf : fsub .f32 x y = FloatKind.f32.encode (.number q M (min e j)) := by
    unfold fsub Ieee.Format.sub
    rw [show FloatKind.f32.format.read x = _ from h1, opposite_read h2, h3]; rfl
  rw [show uval s m e - uval t n j = uval s m e + uval (!t) n j by rw [uval_not]; omega, ← h4, uval_abs] at h
  obtain ⟨t', n', j', hd⟩ := write_small (s := q) hb h
  exact ⟨_, by rw [hf]; exact fval_number hd⟩


theorem sub_self {x : Nat} {a : Int} (hx : fval x = some a) : feq .f32 (fsub .f32 x x) 0 = true := by
  obtain ⟨s, m, e, h1, hn1, rfl⟩ := fval_some hx
  obtain ⟨q, M, hb, h3, h4⟩ := sum_val (s := s) (t := !s) (m := m) (n := m) hn1.2.1 hn1.2.1
  have hf : fsub .f32 x x = FloatKind.f32.encode (.number q M (min e e)) := by
    unfold fsub Ieee.Format.sub
    rw [show FloatKind.f32.format.read x = _ from h1, show (Ieee.Datum.number s m e).opposite = .number (!s) m e from rfl, h3]; rfl
  have h0 : (uval q M (min e e)).natAbs = 0 := by rw [h4, uval_not]; simp; omega
  rw [uval_abs] at h0
  have hM : M = 0 := by
    rcases Nat.mul_eq_zero.1 h0 with h | h
    · exact h
    · have := Nat.two_pow_pos (min e e + 149).toNat; omega
  subst hM
  have : FloatKind.f32.encode (.number q 0 (min e e)) = FloatKind.f32.format.word q 0 := by
    show FloatKind.f32.format.nearest q 0 (min e e) = _; unfold Ieee.Format.nearest; rw [if_pos rfl]
  rw [hf, this]
  cases q <;> decide

theorem order_fval_none {x y : Nat} {b : Int} (hx : fval x = none) (hy : fval y = some b) : FloatKind.f32.format.order x y = none ∨ (FloatKind.f32.format.order x y = some .lt ∧ FloatKind.f32.decode x = .infinity true) ∨ (FloatKind.f32.format.order x y = some .gt ∧ FloatKind.f32.decode x = .infinity false) := by
  obtain ⟨t, n, j, h2, hn2, rfl⟩ := fval_some hy
  rw [order_def, h2]
  unfold fval at hx
  cases hd : FloatKind.f32.decode x with
  | nan s t => exact .inl rfl
  | infinity s => cases s <;> simp [Ieee.Datum.order]
  | number s m e => rw [hd] at hx; cases hx

/-- Between two finite bounds: finite, and between what they weigh. -/
theorem between {x l h : Nat} {a b : Int} (hl : fval l = some a) (hh : fval h = some b) (h1 : fge .f32 x l = true) (h2 : fle .f32 x h = true) : ∃ v, fval x = some v ∧ a ≤ v ∧ v ≤ b := by
  unfold fge at h1; unfold fle at h2
  cases hx : fval x with
  | none =>
    rcases order_fval_none hx hl with h | ⟨h, _⟩ | ⟨h, hd⟩
    · rw [h] at h1; cases h1
    · rw [h] at h1; cases h1
    · rcases order_fval_none hx hh with h' | ⟨h', hd'⟩ | ⟨h', _⟩
      · rw [h'] at h2; cases h2
      · rw [hd] at hd'; cases hd'
      · rw [h'] at h2; cases h2
  | some v =>
    rw [order_fval hx hl] at h1
    rw [order_fval hx hh] at h2
    refine ⟨v, rfl, ?_, ?_⟩
    · rcases Int.lt_trichotomy v a with h | h | h
      · rw [Int.compare_eq_lt.2 h] at h1; cases h1
      · omega
      · omega
    · rcases Int.lt_trichotomy v b with h | h | h
      · omega
      · omega
      · rw [Int.compare_eq_gt.2 h] at h2; cases h2

end Go.Proofs.Ytkmijohkblmajaa
