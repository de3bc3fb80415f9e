/- Narrow numbers: bounds of sums, quotients and roots. -/
import Derived.Test.YtkmijohkblmajaaLibV2
set_option linter.all false
set_option exponentiation.threshold 3000
namespace Go.Proofs.Ytkmijohkblmajaa
open Go Go.RowKit

/-- The same, wide. -/
theorem write_casesD {s : Bool} {m : Nat} {e : Int} (h0 : m ≠ 0) (hl : (m.log2 : Int) + e ≤ 1022) :
    ∃ n : Nat, ∃ j : Int, FloatKind.f64.decode (FloatKind.f64.encode (.number s m e)) = .number s n j ∧
      ((m.log2 : Int) + e < -1022 → n = 0 ∨ (n.log2 : Int) + j ≤ -1021) ∧ (-1022 ≤ (m.log2 : Int) + e → n ≠ 0 ∧ (m.log2 : Int) + e ≤ (n.log2 : Int) + j ∧ (n.log2 : Int) + j ≤ (m.log2 : Int) + e + 1) := by
  have hw : FloatKind.f64.encode (.number s m e) = FloatKind.f64.format.nearest s m e := rfl
  rw [hw]
  unfold Ieee.Format.nearest
  rw [if_neg h0, d_frac, d_least, d_bin, d_inf]
  dsimp only
  generalize hlast : max (e + (m.log2 : Int) - ((52 : Nat) : Int)) (-1074) = last
  have hkept : Ieee.Toward.even.cut s (m <<< (e - last).toNat) (last - e).toNat ≤ 2 ^ 53 ∧ (last = e + (m.log2 : Int) - 52 → 2 ^ 52 ≤ Ieee.Toward.even.cut s (m <<< (e - last).toNat) (last - e).toNat) := by
    by_cases hge : last ≤ e
    · have hz : (last - e).toNat = 0 := by omega
      rw [hz, cut_zero, Nat.shiftLeft_eq]
      constructor
      · have : m * 2 ^ (e - last).toNat < 2 ^ 53 := by
          calc m * 2 ^ (e - last).toNat < 2 ^ (m.log2 + 1) * 2 ^ (e - last).toNat := Nat.mul_lt_mul_of_pos_right Nat.lt_log2_self (Nat.two_pow_pos _)
            _ = 2 ^ (m.log2 + 1 + (e - last).toNat) := by rw [← Nat.pow_add]
            _ ≤ 2 ^ 53 := Nat.pow_le_pow_right (by decide) (by omega)
        omega
      · intro hla
        calc 2 ^ 52 ≤ 2 ^ (m.log2 + (e - last).toNat) := Nat.pow_le_pow_right (by decide) (by omega)
          _ = 2 ^ m.log2 * 2 ^ (e - last).toNat := by rw [Nat.pow_add]
          _ ≤ m * 2 ^ (e - last).toNat := Nat.mul_le_mul_right _ (Nat.log2_self_le h0)
    · have hz : (e - last).toNat = 0 := by omega
      rw [hz, Nat.shiftLeft_zero]
      unfold Ieee.Toward.cut
      dsimp only
      rw [Nat.one_shiftLeft]
      have h2 : ∀ b : Bool, b.toNat ≤ 1 := by intro b; cases b <;> decide
      have := h2 (decide (2 ^ min (last - e).toNat (m.log2 + 2) < 2 * (m % 2 ^ min (last - e).toNat (m.log2 + 2))) || (2 ^ min (last - e).toNat (m.log2 + 2) == 2 * (m % 2 ^ min (last - e).toNat (m.log2 + 2)) && m / 2 ^ min (last - e).toNat (m.log2 + 2) % 2 == 1))
      constructor
      · have hlow : m / 2 ^ min (last - e).toNat (m.log2 + 2) < 2 ^ 53 := by
          rw [Nat.div_lt_iff_lt_mul (Nat.two_pow_pos _), ← Nat.pow_add]
          have hb : m.log2 + 1 ≤ 53 + min (last - e).toNat (m.log2 + 2) := by omega
          exact Nat.lt_of_lt_of_le Nat.lt_log2_self (Nat.pow_le_pow_right (by decide) hb)
        omega
      · intro hla
        have hlow : 2 ^ 52 ≤ m / 2 ^ min (last - e).toNat (m.log2 + 2) := by
          rw [Nat.le_div_iff_mul_le (Nat.two_pow_pos _), ← Nat.pow_add]
          exact pow_le_of_log h0 (by omega)
        omega
  generalize Ieee.Toward.even.cut s (m <<< (e - last).toNat) (last - e).toNat = kept at *
  obtain ⟨hk1, hk2⟩ := hkept
  have hmin : min ((last - -1074).toNat * 2 ^ 52 + kept) (2047 * 2 ^ 52) = (last - -1074).toNat * 2 ^ 52 + kept := by
    refine Nat.min_eq_left ?_
    have h1 : (last - -1074).toNat ≤ 2044 := by omega
    have h2 := Nat.mul_le_mul_right (2 ^ 52) h1
    exact Nat.le_trans (Nat.add_le_add h2 hk1) (by decide)
  rw [hmin]
  by_cases hfull : kept = 2 ^ 53
  · have hr : (last - -1074).toNat * 2 ^ 52 + kept = rungD (2 ^ 52) (last + 1) := by unfold rungD; rw [hfull]; omega
    rw [hr]
    refine ⟨2 ^ 52, last + 1, read_rungD ⟨by decide, by omega, fun h => absurd h (by decide), by omega⟩ s, ?_, ?_⟩
    · intro h; right
      have : Nat.log2 (2 ^ 52) = 52 := by decide
      omega
    · intro h
      have : Nat.log2 (2 ^ 52) = 52 := by decide
      exact ⟨by decide, by omega, by omega⟩
  · have hr : (last - -1074).toNat * 2 ^ 52 + kept = rungD kept last := by unfold rungD; omega
    rw [hr]
    refine ⟨kept, last, read_rungD ⟨by omega, by omega, fun h => ?_, by omega⟩ s, ?_, ?_⟩
    · by_cases hc : last = e + (m.log2 : Int) - 52
      · have := hk2 hc; omega
      · omega
    · intro h
      by_cases hk0 : kept = 0
      · exact .inl hk0
      · right
        have := log_le (k := 52) hk0 (by omega)
        omega
    · intro h
      have h1 := hk2 (by omega)
      have h2 : kept ≠ 0 := by omega
      have h3 := log_ge h1
      have h4 := log_le (k := 52) h2 (by omega)
      exact ⟨h2, by omega, by omega⟩

/-! ### Sums -/
theorem wt_lt {m : Nat} {e k : Int} (he : -149 ≤ e) (h : m = 0 ∨ (m.log2 : Int) + e ≤ k) : m * 2 ^ (e + 149).toNat < 2 ^ (k + 150).toNat := by
  by_cases h0 : m = 0
  · subst h0; rw [Nat.zero_mul]; exact Nat.two_pow_pos _
  · have hk := h.resolve_left h0
    calc m * 2 ^ (e + 149).toNat < 2 ^ (m.log2 + 1) * 2 ^ (e + 149).toNat := Nat.mul_lt_mul_of_pos_right Nat.lt_log2_self (Nat.two_pow_pos _)
      _ = 2 ^ (m.log2 + 1 + (e + 149).toNat) := by rw [← Nat.pow_add]
      _ ≤ 2 ^ (k + 150).toNat := Nat.pow_le_pow_right (by decide) (by omega)
theorem lt_wt {m : Nat} {e k : Int} (he : -149 ≤ e) (hk : -150 ≤ k) (h : m * 2 ^ (e + 149).toNat < 2 ^ (k + 150).toNat) : m = 0 ∨ (m.log2 : Int) + e ≤ k := by
  by_cases h0 : m = 0
  · exact .inl h0
  · right
    have h1 : 2 ^ (m.log2 + (e + 149).toNat) < 2 ^ (k + 150).toNat := by
      rw [Nat.pow_add]
      exact Nat.lt_of_le_of_lt (Nat.mul_le_mul_right _ (Nat.log2_self_le h0)) h
    have := (Nat.pow_lt_pow_iff_right (by decide)).1 h1
    omega
theorem wt_ge {m : Nat} {e l : Int} (he : -149 ≤ e) (h0 : m ≠ 0) (h : l ≤ (m.log2 : Int) + e) : 2 ^ (l + 149).toNat ≤ m * 2 ^ (e + 149).toNat := by
  calc 2 ^ (l + 149).toNat ≤ 2 ^ (m.log2 + (e + 149).toNat) := Nat.pow_le_pow_right (by decide) (by omega)
    _ = 2 ^ m.log2 * 2 ^ (e + 149).toNat := by rw [Nat.pow_add]
    _ ≤ m * 2 ^ (e + 149).toNat := Nat.mul_le_mul_right _ (Nat.log2_self_le h0)
theorem ge_wt {m : Nat} {e l : Int} (he : -149 ≤ e) (hl : -149 ≤ l) (h : 2 ^ (l + 149).toNat ≤ m * 2 ^ (e + 149).toNat) : m ≠ 0 ∧ l ≤ (m.log2 : Int) + e := by
  have h0 : m ≠ 0 := by intro hm; subst hm; rw [Nat.zero_mul] at h; have := Nat.two_pow_pos (l + 149).toNat; omega
  refine ⟨h0, ?_⟩
  have h1 : 2 ^ (l + 149).toNat < 2 ^ (m.log2 + 1 + (e + 149).toNat) := by
    rw [Nat.pow_add]
    exact Nat.lt_of_le_of_lt h (Nat.mul_lt_mul_of_pos_right Nat.lt_log2_self (Nat.two_pow_pos _))
  have := (Nat.pow_lt_pow_iff_right (by decide)).1 h1
  omega
theorem up_total {s t q : Bool} {m n M : Nat} {e j b k : Int} (he : -149 ≤ e) (hj : -149 ≤ j) (hb : -149 ≤ b) (hk : -149 ≤ k) (h1 : m = 0 ∨ (m.log2 : Int) + e ≤ k) (h2 : n = 0 ∨ (n.log2 : Int) + j ≤ k) (h : uval q M b = uval s m e + uval t n j) : M = 0 ∨ (M.log2 : Int) + b ≤ k + 1 := by
  refine lt_wt hb (by omega) ?_
  rw [← uval_abs q M b, h]
  have a1 := wt_lt he h1
  have a2 := wt_lt hj h2
  rw [← uval_abs s m e] at a1
  rw [← uval_abs t n j] at a2
  have a3 : (uval s m e + uval t n j).natAbs ≤ (uval s m e).natAbs + (uval t n j).natAbs := Int.natAbs_add_le _ _
  have a4 : 2 ^ (k + 1 + 150).toNat = 2 ^ (k + 150).toNat + 2 ^ (k + 150).toNat := by
    rw [show (k + 1 + 150).toNat = (k + 150).toNat + 1 by omega, Nat.pow_succ]; omega
  omega
theorem up_add {x y : Nat} {k : Int} (hx : Up x k) (hy : Up y k) (h1 : -127 ≤ k) (h2 : k ≤ 125) : Up (fadd .f32 x y) (k + 2) := by
  obtain ⟨s, m, e, h3, h4⟩ := hx
  obtain ⟨t, n, j, h5, h6⟩ := hy
  have he := (normS h3).2.1
  have hj := (normS h5).2.1
  obtain ⟨q, M, hb, h7, h8⟩ := sum_val (s := s) (t := t) (m := m) (n := n) he hj
  have hf : fadd .f32 x y = FloatKind.f32.encode (.number q M (min e j)) := by
    unfold fadd Ieee.Format.add
    rw [show FloatKind.f32.format.read x = _ from h3, show FloatKind.f32.format.read y = _ from h5, h7]; rfl
  exact (up_write hf (up_total he hj hb (by omega) h4 h6 h8) (by omega) (by omega)).mono (by omega)
theorem up_sub {x y : Nat} {k : Int} (hx : Up x k) (hy : Up y k) (h1 : -127 ≤ k) (h2 : k ≤ 125) : Up (fsub .f32 x y) (k + 2) := by
  obtain ⟨s, m, e, h3, h4⟩ := hx
  obtain ⟨t, n, j, h5, h6⟩ := hy
  have he := (normS h3).2.1
  have hj := (normS h5).2.1
  obtain ⟨q, M, hb, h7, h8⟩ := sum_val (s := s) (t := !t) (m := m) (n := n) he hj
  have hf : fsub .f32 x y = FloatKind.f32.encode (.number q M (min e j)) := by
    unfold fsub Ieee.Format.sub
    rw [show FloatKind.f32.format.read x = _ from h3, opposite_read h5, h7]; rfl
  exact (up_write hf (up_total he hj hb (by omega) h4 h6 h8) (by omega) (by omega)).mono (by omega)
/-- A sum of two that are not below zero: not below either. -/
theorem pos_add {x y : Nat} {k : Int} (hx : Pos x) (hy : Pos y) (ux : Up x k) (uy : Up y k) (h1 : -127 ≤ k) (h2 : k ≤ 125) : Pos (fadd .f32 x y) ∧ ∀ l, -126 ≤ l → (Lo x l ∨ Lo y l) → Lo (fadd .f32 x y) l := by
  obtain ⟨m, e, h3⟩ := hx
  obtain ⟨n, j, h5⟩ := hy
  have he := (normS h3).2.1
  have hj := (normS h5).2.1
  have h4 : m = 0 ∨ (m.log2 : Int) + e ≤ k := by obtain ⟨s', m', e', g1, g2⟩ := ux; rw [h3] at g1; cases g1; exact g2
  have h6 : n = 0 ∨ (n.log2 : Int) + j ≤ k := by obtain ⟨s', m', e', g1, g2⟩ := uy; rw [h5] at g1; cases g1; exact g2
  obtain ⟨q, M, hb, h7, h8⟩ := sum_val (s := false) (t := false) (m := m) (n := n) he hj
  have hf : fadd .f32 x y = FloatKind.f32.encode (.number q M (min e j)) := by
    unfold fadd Ieee.Format.add
    rw [show FloatKind.f32.format.read x = _ from h3, show FloatKind.f32.format.read y = _ from h5, h7]; rfl
  have ha : uval false m e = ((m * 2 ^ (e + 149).toNat : Nat) : Int) := by unfold uval; rw [signed_eq]; simp
  have hc : uval false n j = ((n * 2 ^ (j + 149).toNat : Nat) : Int) := by unfold uval; rw [signed_eq]; simp
  have hM : M * 2 ^ (min e j + 149).toNat = m * 2 ^ (e + 149).toNat + n * 2 ^ (j + 149).toNat := by
    rw [← uval_abs q M, h8, ha, hc]; omega
  have hU := up_total he hj hb (by omega) h4 h6 h8
  have hq : M ≠ 0 → q = false := by
    intro h0
    cases q with
    | false => rfl
    | true =>
      have : uval true M (min e j) = -((M * 2 ^ (min e j + 149).toNat : Nat) : Int) := by unfold uval; rw [signed_eq]; simp
      rw [this, ha, hc, hM] at h8
      have hp : 0 < M * 2 ^ (min e j + 149).toNat := Nat.mul_pos (by omega) (Nat.two_pow_pos _)
      omega
  have hq' : q = false := by
    simp only [Ieee.Datum.sum, Option.some.injEq, Ieee.Datum.number.injEq] at h7
    obtain ⟨h9, h10, _⟩ := h7
    by_cases h0 : M = 0
    · rw [← h9, if_pos (by omega)]; rfl
    · exact hq h0
  subst hq'
  refine ⟨pos_write hf (hU.imp id (fun h => by omega)), fun l hl hlo => ?_⟩
  have hge : 2 ^ (l + 149).toNat ≤ M * 2 ^ (min e j + 149).toNat := by
    rw [hM]
    rcases hlo with ⟨s', m', e', g1, g2, g3⟩ | ⟨s', m', e', g1, g2, g3⟩
    · rw [h3] at g1; cases g1
      exact Nat.le_trans (wt_ge he g2 g3) (Nat.le_add_right _ _)
    · rw [h5] at g1; cases g1
      exact Nat.le_trans (wt_ge hj g2 g3) (Nat.le_add_left _ _)
  obtain ⟨h0, h9⟩ := ge_wt hb (by omega) hge
  exact lo_write hf h0 h9 hl (by have := hU.resolve_left h0; omega)

/-! ### Quotients -/
theorem up_div {x y : Nat} {k l : Int} (hx : Up x k) (hy : Lo y l) (h1 : -126 ≤ k - l) (h2 : k - l ≤ 126) : Up (fdiv .f32 x y) (k - l + 1) := by
  obtain ⟨s, m, e, h3, h4⟩ := hx
  obtain ⟨t, n, j, h5, hn, h6⟩ := hy
  have hf : fdiv .f32 x y = FloatKind.f32.encode (.number (s ^^ t) (2 * (m <<< (25 + n.log2 - m.log2) / n) + (m <<< (25 + n.log2 - m.log2) % n != 0).toNat) (e - j - ((25 + n.log2 - m.log2 : Nat) : Int) - 1)) := by
    unfold fdiv Ieee.Format.div
    rw [show FloatKind.f32.format.read x = _ from h3, show FloatKind.f32.format.read y = _ from h5, s_frac]
    simp only [Ieee.Datum.quotient]
    rw [if_neg hn]; rfl
  refine up_write hf ?_ h1 h2
  by_cases hm : m = 0
  · left; subst hm; simp
  · have hk := h4.resolve_left hm
    have hne : ∀ a : Nat, a ≠ 0 ∨ a = 0 := fun a => by omega
    rcases hne (2 * (m <<< (25 + n.log2 - m.log2) / n) + (m <<< (25 + n.log2 - m.log2) % n != 0).toNat) with h0 | h0
    · right
      have hlt : 2 * (m <<< (25 + n.log2 - m.log2) / n) + (m <<< (25 + n.log2 - m.log2) % n != 0).toNat < 2 ^ (m.log2 + (25 + n.log2 - m.log2) + 1 - n.log2 + 1) := by
        rw [Nat.shiftLeft_eq]
        generalize hD : m * 2 ^ (25 + n.log2 - m.log2) = D
        have hDl : D.log2 = m.log2 + (25 + n.log2 - m.log2) := by rw [← hD]; exact log2_mul_pow _ _ hm
        rw [← hDl]
        have h7 : D / n < 2 ^ (D.log2 + 1 - n.log2) := by
          rw [Nat.div_lt_iff_lt_mul (by omega)]
          calc D < 2 ^ (D.log2 + 1) := Nat.lt_log2_self
            _ = 2 ^ (D.log2 + 1 - n.log2) * 2 ^ n.log2 := by rw [← Nat.pow_add]; congr 1; omega
            _ ≤ 2 ^ (D.log2 + 1 - n.log2) * n := Nat.mul_le_mul_left _ (Nat.log2_self_le hn)
        have h8 : ∀ b : Bool, b.toNat ≤ 1 := by intro b; cases b <;> decide
        have h9 := h8 (D % n != 0)
        rw [Nat.pow_succ]; omega
      have := log_le h0 hlt
      omega
    · exact .inl h0
end Go.Proofs.Ytkmijohkblmajaa
