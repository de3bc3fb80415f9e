/- Floats, more: the opposite, and the ways between the two widths. -/
import Derived.Test.YtkmijohkblmajaaLibA
namespace Go.Proofs.Ytkmijohkblmajaa
open Go

def fneg (k : FloatKind) (x : Nat) : Nat := canon k (Op.negFloat k x)

theorem negFloat_mod (k : FloatKind) (b : Nat) : Op.negFloat k b % k.format.signWeight = b % k.format.signWeight := by
  unfold Op.negFloat Ieee.Format.signWeight
  rw [Nat.xor_mod_two_pow]
  have : 2 ^ (k.format.exponentBits + k.format.fractionBits) % 2 ^ (k.format.exponentBits + k.format.fractionBits) = 0 := Nat.mod_self _
  rw [this, Nat.xor_zero]

theorem negFloat_isNaN (k : FloatKind) (b : Nat) : (k.decode (Op.negFloat k b)).isNaN = (k.decode b).isNaN := by
  rw [decode_isNaN, decode_isNaN, negFloat_mod]

theorem fneg_canon (k : FloatKind) (b : Nat) : canon k (Op.negFloat k b) = fneg k (canon k b) := by
  unfold fneg
  by_cases h : (k.decode b).isNaN = true
  · rw [canon_of_nan (b := b) h, canon_of_nan (by rw [negFloat_isNaN]; exact h), canon_of_nan (by rw [negFloat_isNaN]; exact cnan_nan k)]
  · rw [canon_of_not (b := b) (by simpa using h)]

/-- A narrow number, wide. -/
def fwide (x : Nat) : Nat := match FloatKind.f32.decode x with
  | .nan _ _ => cnan .f64
  | d => FloatKind.f64.encode d

/-- A wide number, narrowed. -/
def fnarrow (x : Nat) : Nat := match FloatKind.f64.decode x with
  | .nan _ _ => cnan .f32
  | d => FloatKind.f32.encode d
/-- It does not pass what is finite. -/
def fnarrowOK (x : Nat) : Bool := match FloatKind.f64.decode x with
  | .number s m e => !(FloatKind.f32.decode (FloatKind.f32.encode (.number s m e))).isInfinity
  | _ => true

theorem read_number {k : FloatKind} {x : Nat} {s : Bool} {m : Nat} {e : Int} (h : k.decode x = .number s m e) :
    m < 2 * k.format.binade ∧ k.format.leastPlace ≤ e ∧ (m < k.format.binade → e = k.format.leastPlace) ∧ e ≤ k.format.leastPlace + (k.format.infRung / k.format.binade - 2 : Nat) := by
  have hb : 0 < k.format.binade := by cases k <;> decide
  have h2 : 2 ≤ k.format.infRung / k.format.binade := by cases k <;> decide
  have hdvd : k.format.infRung / k.format.binade * k.format.binade = k.format.infRung := by cases k <;> decide
  unfold FloatKind.decode Ieee.Format.read at h
  dsimp only at h
  split at h
  · rename_i hlt
    simp only [Ieee.Datum.number.injEq] at h
    obtain ⟨_, rfl, rfl⟩ := h
    refine ⟨by omega, Int.le_refl _, fun _ => rfl, ?_⟩
    omega
  · rename_i hlt
    split at h
    · rename_i hinf
      simp only [Ieee.Datum.number.injEq] at h
      obtain ⟨_, rfl, rfl⟩ := h
      have hm : x % k.format.signWeight % k.format.binade < k.format.binade := Nat.mod_lt _ hb
      refine ⟨by omega, by omega, fun hc => by omega, ?_⟩
      have : x % k.format.signWeight / k.format.binade < k.format.infRung / k.format.binade := Nat.div_lt_of_lt_mul (by rw [Nat.mul_comm, hdvd]; exact hinf)
      omega
    · split at h <;> cases h

theorem cut_le (neg : Bool) (n d : Nat) : Ieee.Toward.even.cut neg n d ≤ n + 1 := by
  unfold Ieee.Toward.cut
  simp only
  have h1 : n / (1 <<< min d (n.log2 + 2)) ≤ n := Nat.div_le_self _ _
  have h2 : ∀ b : Bool, b.toNat ≤ 1 := by intro b; cases b <;> decide
  have := h2 (decide (1 <<< min d (n.log2 + 2) < 2 * (n % (1 <<< min d (n.log2 + 2)))) || (1 <<< min d (n.log2 + 2) == 2 * (n % (1 <<< min d (n.log2 + 2))) && n / (1 <<< min d (n.log2 + 2)) % 2 == 1))
  omega

theorem word_isInfinity {k : FloatKind} {neg : Bool} {r : Nat} (h : r < k.format.infRung) : (k.decode (k.format.word neg r)).isInfinity = false := by
  have hs : k.format.infRung < k.format.signWeight := by cases k <;> decide
  have hm : k.format.word neg r % k.format.signWeight = r := by
    unfold Ieee.Format.word
    split
    · rw [Nat.add_mod_left, Nat.mod_eq_of_lt (by omega)]
    · rw [Nat.mod_eq_of_lt (by omega)]
  unfold FloatKind.decode Ieee.Format.read
  rw [hm]
  by_cases h1 : r < k.format.binade
  · simp only [h1, if_true]; rfl
  · simp only [h1, h, if_true, if_false]; rfl

theorem wide_finite {x : Nat} {s : Bool} {m : Nat} {e : Int} (h : FloatKind.f32.decode x = .number s m e) : (FloatKind.f64.decode (FloatKind.f64.encode (.number s m e))).isInfinity = false := by
  obtain ⟨h1, h2, _, h4⟩ := read_number h
  have e1 : FloatKind.f32.format.binade = 8388608 := by decide
  have e2 : FloatKind.f32.format.leastPlace = -149 := by decide
  have e3 : FloatKind.f32.format.infRung / FloatKind.f32.format.binade - 2 = 253 := by decide
  rw [e1] at h1; rw [e2] at h2; rw [e2, e3] at h4
  show (FloatKind.f64.decode (FloatKind.f64.format.nearest s m e)).isInfinity = false
  unfold Ieee.Format.nearest
  split
  · exact word_isInfinity (by decide)
  · rename_i hm
    refine word_isInfinity (Nat.lt_of_le_of_lt (Nat.min_le_left _ _) ?_)
    have f1 : FloatKind.f64.format.fractionBits = 52 := by decide
    have f2 : FloatKind.f64.format.leastPlace = -1074 := by decide
    have f3 : FloatKind.f64.format.binade = 2 ^ 52 := by decide
    have f4 : FloatKind.f64.format.infRung = 2047 * 2 ^ 52 := by decide
    rw [f1, f2, f3, f4]
    have hl : m.log2 ≤ 23 := by
      have := (Nat.log2_lt hm).2 (show m < 2 ^ 24 by omega); omega
    have hl2 : m < 2 ^ (m.log2 + 1) := Nat.lt_log2_self
    have hsh : m <<< (e - max (e + m.log2 - 52) (-1074)).toNat < 2 ^ 53 := by
      rw [Nat.shiftLeft_eq]
      have ht : (e - max (e + (m.log2 : Int) - ((52 : Nat) : Int)) (-1074)).toNat ≤ 52 - m.log2 := by omega
      calc m * 2 ^ _ < 2 ^ (m.log2 + 1) * 2 ^ (52 - m.log2) := Nat.mul_lt_mul_of_lt_of_le hl2 (Nat.pow_le_pow_right (by decide) ht) (Nat.pos_of_ne_zero (by simp))
        _ = 2 ^ 53 := by rw [← Nat.pow_add]; congr 1; omega
    have hc := cut_le s (m <<< (e - max (e + m.log2 - 52) (-1074)).toNat) (max (e + m.log2 - 52) (-1074) - e).toNat
    have hq : (max (e + (m.log2 : Int) - ((52 : Nat) : Int)) (-1074) - -1074).toNat ≤ 1200 := by omega
    have : (max (e + (m.log2 : Int) - ((52 : Nat) : Int)) (-1074) - -1074).toNat * 2 ^ 52 ≤ 1200 * 2 ^ 52 := Nat.mul_le_mul_right _ hq
    have hc' : Ieee.Toward.even.cut s (m <<< (e - max (e + ↑m.log2 - ((52 : Nat) : Int)) (-1074)).toNat) (max (e + ↑m.log2 - ((52 : Nat) : Int)) (-1074) - e).toNat ≤ 2 ^ 53 := by
      have hcc := hc
      have hshh := hsh
      simp only [show ((52 : Nat) : Int) = 52 from rfl] at *
      omega
    omega

/-- The conversion from narrow to wide, as the machine makes it. -/
theorem run_wide {P : Program} {x : Nat} {w : World} : ∃ b w', (Conv.floatToFloat .f32 x .f64).run P w = .ok (.float .f64 b) w' ∧ canon .f64 b = fwide (canon .f32 x) ∧ drawnOn w w' := by
  unfold Conv.floatToFloat
  rw [if_neg (by decide)]
  cases hd : FloatKind.f32.decode x with
  | nan s t =>
    refine ⟨(Question.nanConv .f64 x).cut (w.tape w.drawn (.nanConv .f64 x)), { w with drawn := w.drawn + 1 }, rfl, ?_, .inr rfl⟩
    rw [canon_of_nan (cut_nanConv_nan _ _ _), canon_of_nan (b := x) (by rw [hd]; rfl)]
    rfl
  | infinity s =>
    refine ⟨_, w, rfl, ?_, .inl rfl⟩
    have hn : (FloatKind.f32.decode x).isNaN = false := by rw [hd]; rfl
    rw [canon_of_not hn]
    unfold fwide; rw [hd]
    exact canon_of_not (write_notNaN _ _ rfl)
  | number s m e =>
    have hn : (FloatKind.f32.decode x).isNaN = false := by rw [hd]; rfl
    have hi := wide_finite hd
    refine ⟨FloatKind.f64.encode (.number s m e), w, ?_, ?_, .inl rfl⟩
    · simp only [hi, Bool.false_eq_true, if_false]; rfl
    · rw [canon_of_not hn]
      unfold fwide; rw [hd]
      exact canon_of_not (write_notNaN _ _ rfl)

/-- From wide to narrow, where what is finite stays so. -/
theorem run_narrow {P : Program} {x : Nat} {w : World} (hok : fnarrowOK (canon .f64 x) = true) : ∃ b w', (Conv.floatToFloat .f64 x .f32).run P w = .ok (.float .f32 b) w' ∧ canon .f32 b = fnarrow (canon .f64 x) ∧ drawnOn w w' := by
  unfold Conv.floatToFloat
  rw [if_neg (by decide)]
  cases hd : FloatKind.f64.decode x with
  | nan s t =>
    refine ⟨(Question.nanConv .f32 x).cut (w.tape w.drawn (.nanConv .f32 x)), { w with drawn := w.drawn + 1 }, rfl, ?_, .inr rfl⟩
    rw [canon_of_nan (cut_nanConv_nan _ _ _), canon_of_nan (b := x) (by rw [hd]; rfl)]
    rfl
  | infinity s =>
    refine ⟨_, w, rfl, ?_, .inl rfl⟩
    have hn : (FloatKind.f64.decode x).isNaN = false := by rw [hd]; rfl
    rw [canon_of_not hn]
    unfold fnarrow; rw [hd]
    exact canon_of_not (write_notNaN _ _ rfl)
  | number s m e =>
    have hn : (FloatKind.f64.decode x).isNaN = false := by rw [hd]; rfl
    rw [canon_of_not hn] at hok ⊢
    unfold fnarrowOK at hok
    rw [hd] at hok
    simp only [Bool.not_eq_true'] at hok
    refine ⟨FloatKind.f32.encode (.number s m e), w, ?_, ?_, .inl rfl⟩
    · simp only [hok, Bool.false_eq_true, if_false]; rfl
    · unfold fnarrow; rw [hd]
      exact canon_of_not (write_notNaN _ _ rfl)

theorem nearest_canon (k : FloatKind) (n : Int) : canon k (k.nearest n) = k.nearest n := canon_of_not (nearest_notNaN _ _ _ _)

end Go.Proofs.Ytkmijohkblmajaa
