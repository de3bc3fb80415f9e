/- Floats: a narrow number made wide keeps its value; narrowed again it is what it was; the size of a number. -/
import Derived.Test.YtkmijohkblmajaaLibA2
namespace Go.Proofs.Ytkmijohkblmajaa
open Go

theorem cut_zero (neg : Bool) (n : Nat) : Ieee.Toward.even.cut neg n 0 = n := by
  unfold Ieee.Toward.cut
  simp [Nat.mod_one]

theorem cut_pow (neg : Bool) (m k : Nat) (hm : m ≠ 0) : Ieee.Toward.even.cut neg (m * 2 ^ k) k = m := by
  have h0 : 0 < 2 ^ k := Nat.two_pow_pos _
  have hl : k ≤ (m * 2 ^ k).log2 := by
    rw [Nat.le_log2 (Nat.mul_ne_zero hm (by omega))]
    exact Nat.le_mul_of_pos_left _ (Nat.pos_of_ne_zero hm)
  unfold Ieee.Toward.cut
  simp only [Nat.min_eq_left (show k ≤ (m * 2 ^ k).log2 + 2 by omega), Nat.one_shiftLeft, Nat.mul_mod_left, Nat.mul_div_cancel _ h0]
  have h1 : decide (2 ^ k < 2 * 0) = false := by simp
  have h2 : (2 ^ k == 2 * 0) = false := by simp
  rw [h1, h2]; rfl

/-- The three constants of the formats, in digits. -/
theorem s_bin : FloatKind.f32.format.binade = 2 ^ 23 := by decide
theorem s_least : FloatKind.f32.format.leastPlace = -149 := by decide
theorem s_inf : FloatKind.f32.format.infRung = 255 * 2 ^ 23 := by decide
theorem s_sign : FloatKind.f32.format.signWeight = 2 ^ 31 := by decide
theorem s_frac : FloatKind.f32.format.fractionBits = 23 := by decide
theorem d_bin : FloatKind.f64.format.binade = 2 ^ 52 := by decide
theorem d_least : FloatKind.f64.format.leastPlace = -1074 := by decide
theorem d_inf : FloatKind.f64.format.infRung = 2047 * 2 ^ 52 := by decide
theorem d_sign : FloatKind.f64.format.signWeight = 2 ^ 63 := by decide
theorem d_frac : FloatKind.f64.format.fractionBits = 52 := by decide

/-- The rung of a narrow number's significand and place. -/
def rungS (m : Nat) (e : Int) : Nat := (e + 149).toNat * 2 ^ 23 + m
def rungD (m : Nat) (e : Int) : Nat := (e + 1074).toNat * 2 ^ 52 + m

/-- A significand and a place as 'read' gives them. -/
def NormS (m : Nat) (e : Int) : Prop := m < 2 ^ 24 ∧ -149 ≤ e ∧ (m < 2 ^ 23 → e = -149) ∧ e ≤ 104
def NormD (m : Nat) (e : Int) : Prop := m < 2 ^ 53 ∧ -1074 ≤ e ∧ (m < 2 ^ 52 → e = -1074) ∧ e ≤ 971

theorem normS {x : Nat} {s : Bool} {m : Nat} {e : Int} (h : FloatKind.f32.decode x = .number s m e) : NormS m e := by
  obtain ⟨h1, h2, h3, h4⟩ := read_number h
  rw [s_bin] at h1 h3; rw [s_least] at h2 h3; rw [s_bin, s_inf, s_least] at h4
  exact ⟨by omega, h2, h3, by have : (255 * 2 ^ 23 / 2 ^ 23 - 2 : Nat) = 253 := by decide
                              rw [this] at h4; omega⟩
theorem normD {x : Nat} {s : Bool} {m : Nat} {e : Int} (h : FloatKind.f64.decode x = .number s m e) : NormD m e := by
  obtain ⟨h1, h2, h3, h4⟩ := read_number h
  rw [d_bin] at h1 h3; rw [d_least] at h2 h3; rw [d_bin, d_inf, d_least] at h4
  exact ⟨by omega, h2, h3, by have : (2047 * 2 ^ 52 / 2 ^ 52 - 2 : Nat) = 2045 := by decide
                              rw [this] at h4; omega⟩

theorem word_mod (k : FloatKind) (s : Bool) {r : Nat} (h : r < k.format.signWeight) : k.format.word s r % k.format.signWeight = r := by
  unfold Ieee.Format.word
  split
  · rw [Nat.add_mod_left, Nat.mod_eq_of_lt h]
  · exact Nat.mod_eq_of_lt h
theorem word_sign (k : FloatKind) (s : Bool) {r : Nat} (h : r < k.format.signWeight) : (k.format.word s r / k.format.signWeight % 2 == 1) = s := by
  have h0 : 0 < k.format.signWeight := Nat.lt_of_le_of_lt (Nat.zero_le _) h
  unfold Ieee.Format.word
  cases s
  · simp [Nat.div_eq_of_lt h]
  · simp [Nat.add_div_left _ h0, Nat.div_eq_of_lt h]

theorem read_rungS {m : Nat} {e : Int} (h : NormS m e) (s : Bool) : FloatKind.f32.decode (FloatKind.f32.format.word s (rungS m e)) = .number s m e := by
  obtain ⟨h1, h2, h3, h4⟩ := h
  have hr : rungS m e < 255 * 2 ^ 23 := by unfold rungS; omega
  have hlt : rungS m e < FloatKind.f32.format.signWeight := by rw [s_sign]; omega
  unfold FloatKind.decode Ieee.Format.read
  dsimp only
  rw [word_mod _ _ hlt, word_sign _ _ hlt, s_bin, s_inf, s_least]
  by_cases hm : m < 2 ^ 23
  · have := h3 hm; subst this
    have : rungS m (-149) = m := by unfold rungS; simp
    rw [this, if_pos hm]
  · have hge : ¬ rungS m e < 2 ^ 23 := by unfold rungS; omega
    rw [if_neg hge, if_pos hr]
    have hd : rungS m e / 2 ^ 23 = (e + 149).toNat + 1 := by unfold rungS; omega
    have hm' : rungS m e % 2 ^ 23 = m - 2 ^ 23 := by unfold rungS; omega
    have q1 : 2 ^ 23 + (m - 2 ^ 23) = m := by omega
    have q2 : (-149 : Int) + (((e + 149).toNat + 1 - 1 : Nat) : Int) = e := by omega
    rw [hd, hm', q1, q2]
theorem read_rungD {m : Nat} {e : Int} (h : NormD m e) (s : Bool) : FloatKind.f64.decode (FloatKind.f64.format.word s (rungD m e)) = .number s m e := by
  obtain ⟨h1, h2, h3, h4⟩ := h
  have hr : rungD m e < 2047 * 2 ^ 52 := by unfold rungD; omega
  have hlt : rungD m e < FloatKind.f64.format.signWeight := by rw [d_sign]; omega
  unfold FloatKind.decode Ieee.Format.read
  dsimp only
  rw [word_mod _ _ hlt, word_sign _ _ hlt, d_bin, d_inf, d_least]
  by_cases hm : m < 2 ^ 52
  · have := h3 hm; subst this
    have : rungD m (-1074) = m := by unfold rungD; simp
    rw [this, if_pos hm]
  · have hge : ¬ rungD m e < 2 ^ 52 := by unfold rungD; omega
    rw [if_neg hge, if_pos hr]
    have hd : rungD m e / 2 ^ 52 = (e + 1074).toNat + 1 := by unfold rungD; omega
    have hm' : rungD m e % 2 ^ 52 = m - 2 ^ 52 := by unfold rungD; omega
    have q1 : 2 ^ 52 + (m - 2 ^ 52) = m := by omega
    have q2 : (-1074 : Int) + (((e + 1074).toNat + 1 - 1 : Nat) : Int) = e := by omega
    rw [hd, hm', q1, q2]

/-- A word is its sign's and its rung's. -/
theorem word_of {x : Nat} {s : Bool} {m : Nat} {e : Int} (hx : x < 2 ^ 32) (h : FloatKind.f32.decode x = .number s m e) : x = FloatKind.f32.format.word s (rungS m e) := by
  unfold FloatKind.decode Ieee.Format.read at h
  dsimp only at h
  rw [s_sign, s_bin, s_inf, s_least] at h
  have hs : ∀ s', (x / 2 ^ 31 % 2 == 1) = s' → ∀ r, x % 2 ^ 31 = r → x = FloatKind.f32.format.word s' r := by
    intro s' h1 r h2
    unfold Ieee.Format.word; rw [s_sign]
    cases s'
    · simp at h1 ⊢; omega
    · simp at h1 ⊢; omega
  split at h
  · simp only [Ieee.Datum.number.injEq] at h
    obtain ⟨h1, rfl, rfl⟩ := h
    refine hs s h1 _ ?_
    unfold rungS; simp
  · split at h
    · simp only [Ieee.Datum.number.injEq] at h
      obtain ⟨h1, rfl, rfl⟩ := h
      refine hs s h1 _ ?_
      unfold rungS
      omega
    · split at h <;> cases h

theorem log2_mul_pow (m k : Nat) (hm : m ≠ 0) : (m * 2 ^ k).log2 = m.log2 + k := by
  rw [Nat.log2_eq_iff (Nat.mul_ne_zero hm (by have := Nat.two_pow_pos k; omega))]
  have h1 := Nat.log2_self_le hm
  have h2 : m < 2 ^ (m.log2 + 1) := Nat.lt_log2_self
  refine ⟨?_, ?_⟩
  · rw [Nat.pow_add]; exact Nat.mul_le_mul_right _ h1
  · rw [show m.log2 + k + 1 = (m.log2 + 1) + k by omega, Nat.pow_add]
    exact Nat.mul_lt_mul_of_pos_right h2 (Nat.two_pow_pos _)

/-- What a narrow number is, wide. -/
def wideM (m : Nat) : Nat := m * 2 ^ (52 - m.log2)
def wideE (m : Nat) (e : Int) : Int := if m = 0 then -1074 else e - (52 - m.log2 : Nat)

theorem log2_lt24 {m : Nat} (h : m < 2 ^ 24) : m.log2 ≤ 23 := by
  by_cases h0 : m = 0
  · subst h0; decide
  · have := (Nat.log2_lt h0).2 h; omega

theorem wide_norm {m : Nat} {e : Int} (h : NormS m e) : NormD (wideM m) (wideE m e) := by
  obtain ⟨h1, h2, h3, h4⟩ := h
  have hl := log2_lt24 h1
  unfold wideM wideE
  by_cases h0 : m = 0
  · subst h0; simp [NormD]
  · rw [if_neg h0]
    have hlo : 2 ^ 52 ≤ m * 2 ^ (52 - m.log2) := by
      have := Nat.mul_le_mul_right (2 ^ (52 - m.log2)) (Nat.log2_self_le h0)
      rw [← Nat.pow_add, show m.log2 + (52 - m.log2) = 52 by omega] at this
      exact this
    have hhi : m * 2 ^ (52 - m.log2) < 2 ^ 53 := by
      have := Nat.mul_lt_mul_of_pos_right (show m < 2 ^ (m.log2 + 1) from Nat.lt_log2_self) (Nat.two_pow_pos (52 - m.log2))
      rw [← Nat.pow_add, show m.log2 + 1 + (52 - m.log2) = 53 by omega] at this
      exact this
    exact ⟨hhi, by omega, by omega, by omega⟩

theorem wide_write {m : Nat} {e : Int} (h : NormS m e) (s : Bool) : FloatKind.f64.encode (.number s m e) = FloatKind.f64.format.word s (rungD (wideM m) (wideE m e)) := by
  have hn := wide_norm h
  obtain ⟨h1, h2, h3, h4⟩ := h
  have hl := log2_lt24 h1
  show FloatKind.f64.format.nearest s m e = _
  unfold Ieee.Format.nearest
  by_cases h0 : m = 0
  · subst h0
    have : rungD (wideM 0) (wideE 0 e) = 0 := by simp [rungD, wideM, wideE]
    rw [this, if_pos rfl]
  · rw [if_neg h0, d_frac, d_least, d_bin, d_inf]
    dsimp only
    have hlast : max (e + (m.log2 : Int) - ((52 : Nat) : Int)) (-1074) = e - (52 - m.log2 : Nat) := by omega
    rw [hlast]
    have e1 : (e - (e - ((52 - m.log2 : Nat) : Int))).toNat = 52 - m.log2 := by omega
    have e2 : (e - ((52 - m.log2 : Nat) : Int) - e).toNat = 0 := by omega
    rw [e1, e2, cut_zero, Nat.shiftLeft_eq]
    have hr : rungD (wideM m) (wideE m e) = (e - ((52 - m.log2 : Nat) : Int) - -1074).toNat * 2 ^ 52 + m * 2 ^ (52 - m.log2) := by
      unfold rungD wideM wideE
      rw [if_neg h0, Int.sub_neg]
    refine congrArg (FloatKind.f64.format.word s) ?_
    rw [Nat.min_def, if_pos]
    · exact hr.symm
    obtain ⟨g1, g2, g3, g4⟩ := hn
    refine Nat.le_trans (Nat.le_of_eq hr.symm) ?_
    unfold rungD
    omega

theorem wide_read {m : Nat} {e : Int} (h : NormS m e) (s : Bool) : FloatKind.f64.decode (FloatKind.f64.encode (.number s m e)) = .number s (wideM m) (wideE m e) := by
  rw [wide_write h, read_rungD (wide_norm h)]

theorem narrow_write {m : Nat} {e : Int} (h : NormS m e) (s : Bool) : FloatKind.f32.encode (.number s (wideM m) (wideE m e)) = FloatKind.f32.format.word s (rungS m e) := by
  obtain ⟨h1, h2, h3, h4⟩ := h
  have hl := log2_lt24 h1
  show FloatKind.f32.format.nearest s _ _ = _
  unfold Ieee.Format.nearest wideM wideE
  by_cases h0 : m = 0
  · subst h0
    have := h3 (by decide); subst this
    rw [if_pos (by simp)]
    have : rungS 0 (-149) = 0 := by simp [rungS]
    rw [this]
  · have hne : m * 2 ^ (52 - m.log2) ≠ 0 := Nat.mul_ne_zero h0 (by have := Nat.two_pow_pos (52 - m.log2); omega)
    rw [if_neg hne, if_neg h0, s_frac, s_least, s_bin, s_inf]
    dsimp only
    rw [log2_mul_pow _ _ h0]
    have hlast : max (e - ((52 - m.log2 : Nat) : Int) + ((m.log2 + (52 - m.log2) : Nat) : Int) - ((23 : Nat) : Int)) (-149) = e := by
      by_cases hm : m < 2 ^ 23
      · have := h3 hm; subst this
        have : m.log2 < 23 := (Nat.log2_lt h0).2 hm
        omega
      · have : 23 ≤ m.log2 := (Nat.le_log2 h0).2 (by omega)
        omega
    rw [hlast]
    have e1 : (e - ((52 - m.log2 : Nat) : Int) - e).toNat = 0 := by omega
    have e2 : (e - (e - ((52 - m.log2 : Nat) : Int))).toNat = 52 - m.log2 := by omega
    rw [e1, e2, Nat.shiftLeft_zero, cut_pow _ _ _ h0]
    have hr : rungS m e = (e - -149).toNat * 2 ^ 23 + m := by unfold rungS; rw [Int.sub_neg]
    refine congrArg (FloatKind.f32.format.word s) ?_
    rw [Nat.min_def, if_pos]
    · exact hr.symm
    refine Nat.le_trans (Nat.le_of_eq hr.symm) ?_
    unfold rungS; omega

/-- A narrow number made wide can be narrowed. -/
theorem wide_ok (a : Nat) : fnarrowOK (fwide a) = true := by
  unfold fwide
  split
  · rfl
  · rename_i hd
    cases h : FloatKind.f32.decode a with
    | nan s t => exact absurd h (hd s t)
    | infinity s => cases s <;> decide
    | number s m e =>
      have hn := normS h
      unfold fnarrowOK
      rw [wide_read hn]
      simp only
      rw [narrow_write hn, read_rungS hn]
      rfl


/-- A wide number that can be narrowed: it stays finite, and lies below two to the 128. -/
def gOK (x : Nat) : Bool := fnarrowOK x && (match FloatKind.f64.decode x with
  | .number _ m e => m == 0 || decide ((m.log2 : Int) + e ≤ 127)
  | _ => true)
theorem gOK_narrow {x : Nat} (h : gOK x = true) : fnarrowOK x = true := by
  unfold gOK at h; rw [Bool.and_eq_true] at h; exact h.1
theorem wide_gOK (a : Nat) : gOK (fwide a) = true := by
  unfold gOK
  rw [wide_ok, Bool.true_and]
  cases h : FloatKind.f32.decode a with
  | nan s t =>
    have : fwide a = cnan .f64 := by unfold fwide; rw [h]
    rw [this]; rfl
  | infinity s =>
    have : fwide a = FloatKind.f64.encode (.infinity s) := by unfold fwide; rw [h]
    rw [this]; cases s <;> decide
  | number s m e =>
    have : fwide a = FloatKind.f64.encode (.number s m e) := by unfold fwide; rw [h]
    have hn := normS h
    rw [this, wide_read hn]
    simp only
    by_cases h0 : m = 0
    · subst h0; rfl
    · have hl : (wideM m).log2 = m.log2 + (52 - m.log2) := log2_mul_pow _ _ h0
      obtain ⟨h1, h2, h3, h4⟩ := hn
      have hl2 := log2_lt24 h1
      have : decide (((wideM m).log2 : Int) + wideE m e ≤ 127) = true := by
        rw [hl]; unfold wideE; rw [if_neg h0]; simp; omega
      rw [this, Bool.or_true]
theorem gOK_bif {β : Bool} {x y : Nat} (h : if β then gOK x = true else gOK y = true) : gOK (bif β then x else y) = true := by
  cases β <;> exact h

end Go.Proofs.Ytkmijohkblmajaa
