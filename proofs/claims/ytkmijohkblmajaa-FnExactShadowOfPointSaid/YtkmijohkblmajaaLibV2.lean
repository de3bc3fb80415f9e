/- Narrow numbers: bounds of products, sums, quotients and roots, by their greatest digit's place. -/
import Derived.Test.YtkmijohkblmajaaLibV
set_option linter.all false
namespace Go.Proofs.Ytkmijohkblmajaa
open Go Go.RowKit

theorem pow_le_of_log {m : Nat} {k : Nat} (h0 : m ≠ 0) (h : k ≤ m.log2) : 2 ^ k ≤ m := Nat.le_trans (Nat.pow_le_pow_right (by decide) h) (Nat.log2_self_le h0)
theorem log_ge {m k : Nat} (h : 2 ^ k ≤ m) : k ≤ m.log2 := by
  have h0 : m ≠ 0 := by have := Nat.two_pow_pos k; omega
  exact (Nat.le_log2 h0).2 h
theorem log_le {m k : Nat} (h0 : m ≠ 0) (h : m < 2 ^ (k + 1)) : m.log2 ≤ k := Nat.lt_succ_iff.1 ((Nat.log2_lt h0).2 h)

/-- A number, written and read again. -/
theorem write_cases {s : Bool} {m : Nat} {e : Int} (h0 : m ≠ 0) (hl : (m.log2 : Int) + e ≤ 126) :
    ∃ n : Nat, ∃ j : Int, FloatKind.f32.decode (FloatKind.f32.encode (.number s m e)) = .number s n j ∧
      ((m.log2 : Int) + e < -126 → n = 0 ∨ (n.log2 : Int) + j ≤ -125) ∧ (-126 ≤ (m.log2 : Int) + e → n ≠ 0 ∧ (m.log2 : Int) + e ≤ (n.log2 : Int) + j ∧ (n.log2 : Int) + j ≤ (m.log2 : Int) + e + 1) := by
  have hw : FloatKind.f32.encode (.number s m e) = FloatKind.f32.format.nearest s m e := rfl
  rw [hw]
  unfold Ieee.Format.nearest
  rw [if_neg h0, s_frac, s_least, s_bin, s_inf]
  dsimp only
  generalize hlast : max (e + (m.log2 : Int) - ((23 : Nat) : Int)) (-149) = last
  have hkept : Ieee.Toward.even.cut s (m <<< (e - last).toNat) (last - e).toNat ≤ 2 ^ 24 ∧ (last = e + (m.log2 : Int) - 23 → 2 ^ 23 ≤ Ieee.Toward.even.cut s (m <<< (e - last).toNat) (last - e).toNat) := by
    by_cases hge : last ≤ e
    · have hz : (last - e).toNat = 0 := by omega
      rw [hz, cut_zero, Nat.shiftLeft_eq]
      constructor
      · have : m * 2 ^ (e - last).toNat < 2 ^ 24 := by
          calc m * 2 ^ (e - last).toNat < 2 ^ (m.log2 + 1) * 2 ^ (e - last).toNat := Nat.mul_lt_mul_of_pos_right Nat.lt_log2_self (Nat.two_pow_pos _)
            _ = 2 ^ (m.log2 + 1 + (e - last).toNat) := by rw [← Nat.pow_add]
            _ ≤ 2 ^ 24 := Nat.pow_le_pow_right (by decide) (by omega)
        omega
      · intro hla
        calc 2 ^ 23 ≤ 2 ^ (m.log2 + (e - last).toNat) := Nat.pow_le_pow_right (by decide) (by omega)
          _ = 2 ^ m.log2 * 2 ^ (e - last).toNat := by rw [Nat.pow_add]
          _ ≤ m * 2 ^ (e - last).toNat := Nat.mul_le_mul_right _ (Nat.log2_self_le h0)
    · have hz : (e - last).toNat = 0 := by omega
      rw [hz, Nat.shiftLeft_zero]
      unfold Ieee.Toward.cut
      dsimp only
      rw [Nat.one_shiftLeft]
      have h2 : ∀ b : Bool, b.toNat ≤ 1 := by intro b; cases b <;> decide
      have := h2 (decide (2 ^ min (last - e).toNat (m.log2 + 2) < 2 * (m % 2 ^ min (last - e).toNat (m.log2 + 2))) || (2 ^ min (last - e).toNat (m.log2 + 2) == 2 * (m % 2 ^ min (last - e).toNat (m.log2 + 2)) && m / 2 ^ min (last - e).toNat (m.log2 + 2) % 2 == 1))
      constructor
      · have hlow : m / 2 ^ min (last - e).toNat (m.log2 + 2) < 2 ^ 24 := by
          rw [Nat.div_lt_iff_lt_mul (Nat.two_pow_pos _), ← Nat.pow_add]
          have hb : m.log2 + 1 ≤ 24 + min (last - e).toNat (m.log2 + 2) := by omega
          exact Nat.lt_of_lt_of_le Nat.lt_log2_self (Nat.pow_le_pow_right (by decide) hb)
        omega
      · intro hla
        have hlow : 2 ^ 23 ≤ m / 2 ^ min (last - e).toNat (m.log2 + 2) := by
          rw [Nat.le_div_iff_mul_le (Nat.two_pow_pos _), ← Nat.pow_add]
          exact pow_le_of_log h0 (by omega)
        omega
  generalize Ieee.Toward.even.cut s (m <<< (e - last).toNat) (last - e).toNat = kept at *
  obtain ⟨hk1, hk2⟩ := hkept
  have hmin : min ((last - -149).toNat * 2 ^ 23 + kept) (255 * 2 ^ 23) = (last - -149).toNat * 2 ^ 23 + kept := by
    refine Nat.min_eq_left ?_
    have h1 : (last - -149).toNat ≤ 252 := by omega
    have h2 := Nat.mul_le_mul_right (2 ^ 23) h1
    exact Nat.le_trans (Nat.add_le_add h2 hk1) (by decide)
  rw [hmin]
  by_cases hfull : kept = 2 ^ 24
  · have hr : (last - -149).toNat * 2 ^ 23 + kept = rungS (2 ^ 23) (last + 1) := by unfold rungS; rw [hfull]; omega
    rw [hr]
    refine ⟨2 ^ 23, last + 1, read_rungS ⟨by decide, by omega, fun h => absurd h (by decide), by omega⟩ s, ?_, ?_⟩
    · intro h; right
      have : Nat.log2 (2 ^ 23) = 23 := by decide
      omega
    · intro h
      have : Nat.log2 (2 ^ 23) = 23 := by decide
      exact ⟨by decide, by omega, by omega⟩
  · have hr : (last - -149).toNat * 2 ^ 23 + kept = rungS kept last := by unfold rungS; omega
    rw [hr]
    refine ⟨kept, last, read_rungS ⟨by omega, by omega, fun h => ?_, by omega⟩ s, ?_, ?_⟩
    · by_cases hc : last = e + (m.log2 : Int) - 23
      · have := hk2 hc; omega
      · omega
    · intro h
      by_cases hk0 : kept = 0
      · exact .inl hk0
      · right
        have := log_le (k := 23) hk0 (by omega)
        omega
    · intro h
      have h1 := hk2 (by omega)
      have h2 : kept ≠ 0 := by omega
      have h3 := log_ge h1
      have h4 := log_le (k := 23) h2 (by omega)
      exact ⟨h2, by omega, by omega⟩
theorem write_zero {s : Bool} {e : Int} : FloatKind.f32.decode (FloatKind.f32.encode (.number s 0 e)) = .number s 0 (-149) := by
  have : FloatKind.f32.encode (.number s 0 e) = FloatKind.f32.format.word s 0 := by
    show FloatKind.f32.format.nearest s 0 e = _; unfold Ieee.Format.nearest; rw [if_pos rfl]
  rw [this]; cases s <;> decide

/-- Less than 2 ^ (k + 1) in size. -/
def Up (x : Nat) (k : Int) : Prop := ∃ s m e, FloatKind.f32.decode x = .number s m e ∧ (m = 0 ∨ (m.log2 : Int) + e ≤ k)
/-- Not less than 2 ^ k in size. -/
def Lo (x : Nat) (k : Int) : Prop := ∃ s m e, FloatKind.f32.decode x = .number s m e ∧ m ≠ 0 ∧ k ≤ (m.log2 : Int) + e
/-- Finite, and its sign is plus. -/
def Pos (x : Nat) : Prop := ∃ m e, FloatKind.f32.decode x = .number false m e

theorem Up.mono {x : Nat} {k l : Int} (h : Up x k) (hl : k ≤ l) : Up x l := by
  obtain ⟨s, m, e, h1, h2⟩ := h; exact ⟨s, m, e, h1, h2.imp id (fun h => by omega)⟩
theorem up_write {s : Bool} {m : Nat} {e k : Int} {x : Nat} (hx : x = FloatKind.f32.encode (.number s m e)) (h : m = 0 ∨ (m.log2 : Int) + e ≤ k) (h1 : -126 ≤ k) (h2 : k ≤ 126) : Up x (k + 1) := by
  subst hx
  by_cases h0 : m = 0
  · subst h0; exact ⟨s, 0, -149, write_zero, .inl rfl⟩
  · have hk := h.resolve_left h0
    obtain ⟨n, j, hd, ha, hb⟩ := write_cases (s := s) h0 (by omega : (m.log2 : Int) + e ≤ 126)
    refine ⟨s, n, j, hd, ?_⟩
    by_cases hc : (m.log2 : Int) + e < -126
    · exact (ha hc).imp id (fun h => by omega)
    · right; have := hb (by omega); omega
theorem lo_write {s : Bool} {m : Nat} {e k : Int} {x : Nat} (hx : x = FloatKind.f32.encode (.number s m e)) (h0 : m ≠ 0) (h : k ≤ (m.log2 : Int) + e) (h1 : -126 ≤ k) (h2 : (m.log2 : Int) + e ≤ 126) : Lo x k := by
  subst hx
  obtain ⟨n, j, hd, ha, hb⟩ := write_cases (s := s) h0 h2
  have := hb (by omega)
  exact ⟨s, n, j, hd, this.1, by omega⟩
theorem pos_write {m : Nat} {e : Int} {x : Nat} (hx : x = FloatKind.f32.encode (.number false m e)) (h : m = 0 ∨ (m.log2 : Int) + e ≤ 126) : Pos x := by
  subst hx
  by_cases h0 : m = 0
  · subst h0; exact ⟨0, -149, write_zero⟩
  · obtain ⟨n, j, hd, _⟩ := write_cases (s := false) h0 (h.resolve_left h0)
    exact ⟨n, j, hd⟩

theorem mul_log {m n : Nat} (hm : m ≠ 0) (hn : n ≠ 0) : m.log2 + n.log2 ≤ (m * n).log2 ∧ (m * n).log2 ≤ m.log2 + n.log2 + 1 := by
  constructor
  · refine log_ge ?_
    rw [Nat.pow_add]; exact Nat.mul_le_mul (Nat.log2_self_le hm) (Nat.log2_self_le hn)
  · refine log_le (Nat.mul_ne_zero hm hn) ?_
    have : 2 ^ (m.log2 + n.log2 + 1 + 1) = 2 ^ (m.log2 + 1) * 2 ^ (n.log2 + 1) := by rw [← Nat.pow_add]; congr 1; omega
    rw [this]
    exact Nat.mul_lt_mul_of_lt_of_lt Nat.lt_log2_self Nat.lt_log2_self

theorem mul_word {x y : Nat} {s t : Bool} {m n : Nat} {e j : Int} (hx : FloatKind.f32.decode x = .number s m e) (hy : FloatKind.f32.decode y = .number t n j) : fmul .f32 x y = FloatKind.f32.encode (.number (s ^^ t) (m * n) (e + j)) := by
  unfold fmul Ieee.Format.mul
  rw [show FloatKind.f32.format.read x = _ from hx, show FloatKind.f32.format.read y = _ from hy]; rfl
theorem up_mul {x y : Nat} {k l : Int} (hx : Up x k) (hy : Up y l) (h1 : -126 ≤ k + l + 1) (h2 : k + l + 1 ≤ 126) : Up (fmul .f32 x y) (k + l + 2) := by
  obtain ⟨s, m, e, h3, h4⟩ := hx
  obtain ⟨t, n, j, h5, h6⟩ := hy
  have := up_write (k := k + l + 1) (mul_word h3 h5) (by
    by_cases hm : m = 0
    · left; rw [hm, Nat.zero_mul]
    · by_cases hn : n = 0
      · left; rw [hn, Nat.mul_zero]
      · right
        have := (mul_log hm hn).2
        have := h4.resolve_left hm
        have := h6.resolve_left hn
        omega) h1 h2
  exact this.mono (by omega)
/-- A number by itself. -/
theorem square {x : Nat} {k : Int} (hx : Up x k) (h1 : -63 ≤ k) (h2 : k ≤ 62) : Pos (fmul .f32 x x) ∧ ∀ l, -63 ≤ l → Lo x l → Lo (fmul .f32 x x) (2 * l) := by
  obtain ⟨s, m, e, h3, h4⟩ := hx
  have hw := mul_word h3 h3
  rw [Bool.xor_self] at hw
  constructor
  · refine pos_write hw ?_
    by_cases hm : m = 0
    · left; rw [hm, Nat.zero_mul]
    · right
      have := (mul_log hm hm).2
      have := h4.resolve_left hm
      omega
  · rintro l hl ⟨s', m', e', h5, h6, h7⟩
    rw [h3] at h5
    cases h5
    have := (mul_log h6 h6)
    have := h4.resolve_left h6
    exact lo_write hw (Nat.mul_ne_zero h6 h6) (by omega) (by omega) (by omega)
end Go.Proofs.Ytkmijohkblmajaa
