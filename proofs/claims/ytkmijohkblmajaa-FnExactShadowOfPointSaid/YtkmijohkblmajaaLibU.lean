/- The root of a wide number: what it yields, and that it can be narrowed. -/
import Derived.Test.YtkmijohkblmajaaLibT
namespace Go.Proofs.Ytkmijohkblmajaa
open Go Go.RowKit

def fsqrt (x : Nat) : Nat := (FloatKind.f64.format.sqrt x).getD (cnan .f64)

theorem rootFrom_lt (n : Nat) : ∀ todo root : Nat, Ieee.Datum.rootFrom n todo root < root + 2 ^ todo
  | 0, root => by simp [Ieee.Datum.rootFrom]
  | todo + 1, root => by
    unfold Ieee.Datum.rootFrom
    have e : (1 <<< todo : Nat) = 2 ^ todo := Nat.one_shiftLeft todo
    have h2 : 2 ^ (todo + 1) = 2 ^ todo + 2 ^ todo := by rw [Nat.pow_succ]; omega
    have h3 := Nat.two_pow_pos todo
    dsimp only
    rw [e]
    split
    · have := rootFrom_lt n todo (root + 2 ^ todo); omega
    · have := rootFrom_lt n todo root; omega

/-- What is written of a number below two to the L lies at or below it. -/
theorem write_below {s : Bool} {m : Nat} {e L : Int} (hm : m ≠ 0) (hL : (m.log2 : Int) + e < L) (h0 : -1021 ≤ L) (h1 : L ≤ 1000) :
    ∃ r, FloatKind.f64.encode (.number s m e) = FloatKind.f64.format.word s r ∧ r ≤ (L + 1023).toNat * 2 ^ 52 := by
  show ∃ r, FloatKind.f64.format.nearest s m e = _ ∧ _
  unfold Ieee.Format.nearest
  rw [if_neg hm, d_frac, d_least, d_bin, d_inf]
  dsimp only
  refine ⟨_, rfl, ?_⟩
  refine Nat.le_trans (Nat.min_le_left _ _) ?_
  generalize hlast : max (e + (m.log2 : Int) - ((52 : Nat) : Int)) (-1074) = last
  have hcut := cut_le s (m <<< (e - last).toNat) (last - e).toNat
  have hl1 : last ≤ L - 53 ∨ last = -1074 := by omega
  have hl2 : -1074 ≤ last := by omega
  have hkept : Ieee.Toward.even.cut s (m <<< (e - last).toNat) (last - e).toNat ≤ 2 ^ 53 := by
    by_cases hge : last ≤ e
    · have hz : (last - e).toNat = 0 := by omega
      rw [hz, cut_zero, Nat.shiftLeft_eq]
      have hb : m.log2 + (e - last).toNat ≤ 52 := by omega
      have : m * 2 ^ (e - last).toNat < 2 ^ 53 := by
        calc m * 2 ^ (e - last).toNat < 2 ^ (m.log2 + 1) * 2 ^ (e - last).toNat := Nat.mul_lt_mul_of_pos_right Nat.lt_log2_self (Nat.two_pow_pos _)
          _ = 2 ^ (m.log2 + 1 + (e - last).toNat) := by rw [← Nat.pow_add]
          _ ≤ 2 ^ 53 := Nat.pow_le_pow_right (by decide) (by omega)
      omega
    · have hz : (e - last).toNat = 0 := by omega
      rw [hz, Nat.shiftLeft_zero]
      unfold Ieee.Toward.cut
      dsimp only
      rw [Nat.one_shiftLeft]
      have hlow : m / 2 ^ min (last - e).toNat (m.log2 + 2) < 2 ^ 53 := by
        rw [Nat.div_lt_iff_lt_mul (Nat.two_pow_pos _), ← Nat.pow_add]
        have hb : m.log2 + 1 ≤ 53 + min (last - e).toNat (m.log2 + 2) := by omega
        exact Nat.lt_of_lt_of_le Nat.lt_log2_self (Nat.pow_le_pow_right (by decide) hb)
      have h2 : ∀ b : Bool, b.toNat ≤ 1 := by intro b; cases b <;> decide
      have := h2 (decide (2 ^ min (last - e).toNat (m.log2 + 2) < 2 * (m % 2 ^ min (last - e).toNat (m.log2 + 2))) || (2 ^ min (last - e).toNat (m.log2 + 2) == 2 * (m % 2 ^ min (last - e).toNat (m.log2 + 2)) && m / 2 ^ min (last - e).toNat (m.log2 + 2) % 2 == 1))
      omega
  generalize Ieee.Toward.even.cut s (m <<< (e - last).toNat) (last - e).toNat = kept at *
  have hq : (last - -1074).toNat + 2 ≤ (L + 1023).toNat := by omega
  have := Nat.mul_le_mul_right (2 ^ 52) hq
  omega

theorem dec_word_small {s : Bool} {r : Nat} (h : r ≤ 1100 * 2 ^ 52) : ∃ m e, FloatKind.f64.decode (FloatKind.f64.format.word s r) = .number s m e ∧ m < 2 ^ 53 ∧ e ≤ 25 := by
  have hlt : r < FloatKind.f64.format.signWeight := by rw [d_sign]; omega
  unfold FloatKind.decode Ieee.Format.read
  dsimp only
  rw [word_mod _ _ hlt, word_sign _ _ hlt, d_bin, d_inf, d_least]
  by_cases h1 : r < 2 ^ 52
  · rw [if_pos h1]; exact ⟨_, _, rfl, by omega, by omega⟩
  · rw [if_neg h1, if_pos (by omega)]
    refine ⟨_, _, rfl, by omega, ?_⟩
    have : r / 2 ^ 52 ≤ 1100 := by omega
    omega

/-- A number of at most 53 digits whose last stands no higher than 25 stays finite, narrowed. -/
theorem narrow_small {s : Bool} {m : Nat} {e : Int} (hm : m < 2 ^ 53) (he : e ≤ 25) : (FloatKind.f32.decode (FloatKind.f32.encode (.number s m e))).isInfinity = false := by
  show (FloatKind.f32.decode (FloatKind.f32.format.nearest s m e)).isInfinity = false
  unfold Ieee.Format.nearest
  by_cases h0 : m = 0
  · rw [if_pos h0]; exact word_isInfinity (by rw [s_inf]; omega)
  · rw [if_neg h0, s_frac, s_least, s_bin, s_inf]
    dsimp only
    refine word_isInfinity (Nat.lt_of_le_of_lt (Nat.min_le_left _ _) ?_)
    rw [s_inf]
    have hlog : m.log2 ≤ 52 := by have := (Nat.log2_lt h0).2 hm; omega
    generalize hlast : max (e + (m.log2 : Int) - ((23 : Nat) : Int)) (-149) = last
    have hkept : Ieee.Toward.even.cut s (m <<< (e - last).toNat) (last - e).toNat ≤ 2 ^ 24 := by
      by_cases hge : last ≤ e
      · have hz : (last - e).toNat = 0 := by omega
        rw [hz, cut_zero, Nat.shiftLeft_eq]
        have : m * 2 ^ (e - last).toNat < 2 ^ 24 := by
          calc m * 2 ^ (e - last).toNat < 2 ^ (m.log2 + 1) * 2 ^ (e - last).toNat := Nat.mul_lt_mul_of_pos_right Nat.lt_log2_self (Nat.two_pow_pos _)
            _ = 2 ^ (m.log2 + 1 + (e - last).toNat) := by rw [← Nat.pow_add]
            _ ≤ 2 ^ 24 := Nat.pow_le_pow_right (by decide) (by omega)
        omega
      · have hz : (e - last).toNat = 0 := by omega
        rw [hz, Nat.shiftLeft_zero]
        unfold Ieee.Toward.cut
        dsimp only
        rw [Nat.one_shiftLeft]
        have hlow : m / 2 ^ min (last - e).toNat (m.log2 + 2) < 2 ^ 24 := by
          rw [Nat.div_lt_iff_lt_mul (Nat.two_pow_pos _), ← Nat.pow_add]
          have hb : m.log2 + 1 ≤ 24 + min (last - e).toNat (m.log2 + 2) := by omega
          exact Nat.lt_of_lt_of_le Nat.lt_log2_self (Nat.pow_le_pow_right (by decide) hb)
        have h2 : ∀ b : Bool, b.toNat ≤ 1 := by intro b; cases b <;> decide
        have := h2 (decide (2 ^ min (last - e).toNat (m.log2 + 2) < 2 * (m % 2 ^ min (last - e).toNat (m.log2 + 2))) || (2 ^ min (last - e).toNat (m.log2 + 2) == 2 * (m % 2 ^ min (last - e).toNat (m.log2 + 2)) && m / 2 ^ min (last - e).toNat (m.log2 + 2) % 2 == 1))
        omega
    generalize Ieee.Toward.even.cut s (m <<< (e - last).toNat) (last - e).toNat = kept at *
    have hq : (last - -149).toNat ≤ 203 := by omega
    have := Nat.mul_le_mul_right (2 ^ 23) hq
    omega

theorem gOK_small {x : Nat} {s : Bool} {m : Nat} {e : Int} (h : FloatKind.f64.decode x = .number s m e) (hm : m < 2 ^ 53) (he : e ≤ 25) : gOK x = true := by
  unfold gOK fnarrowOK
  rw [h]
  simp only
  rw [narrow_small hm he]
  by_cases h0 : m = 0
  · subst h0; rfl
  · have hlog : m.log2 ≤ 52 := by have := (Nat.log2_lt h0).2 hm; omega
    have : decide ((m.log2 : Int) + e ≤ 127) = true := by simp; omega
    rw [this, Bool.or_true]; rfl

theorem root_shape {d : Ieee.Datum} {r : Ieee.Datum} (h : d.root 54 = some r) : r = .infinity false ∨ (∃ s e, r = .number s 0 e) ∨
    ∃ s m i w e, d = .number s m i ∧ m ≠ 0 ∧ r = .number false w e ∧ w ≠ 0 ∧ 2 * ((w.log2 : Int) + e) ≤ m.log2 + i + 2 := by
  cases d with
  | nan s t => cases h
  | infinity s => cases s <;> simp [Ieee.Datum.root] at h; exact .inl h.symm
  | number s m i =>
    simp only [Ieee.Datum.root] at h
    by_cases h0 : m = 0
    · rw [if_pos h0] at h; cases h; subst h0; exact .inr (.inl ⟨_, _, rfl⟩)
    · rw [if_neg h0] at h
      cases s
      · simp only [Bool.false_eq_true, if_false, Option.some.injEq] at h
        subst h
        generalize hm1 : 2 * 54 - m.log2 + ((i - ((2 * 54 - m.log2 : Nat) : Int)) % 2).toNat = more
        have hlog : (m <<< more).log2 = m.log2 + more := by rw [Nat.shiftLeft_eq, log2_mul_pow _ _ h0]
        have hw := rootFrom_lt (m <<< more) ((m <<< more).log2 / 2 + 1) 0
        rw [hlog] at hw ⊢
        generalize hR : Ieee.Datum.rootFrom (m <<< more) ((m.log2 + more) / 2 + 1) 0 = R at *
        have hb : ∀ b : Bool, b.toNat ≤ 1 := by intro b; cases b <;> decide
        have hb1 := hb (R * R != m <<< more)
        have hne : 2 * R + (R * R != m <<< more).toNat ≠ 0 := by
          intro hc
          have hr0 : R = 0 := by omega
          have : m <<< more ≠ 0 := by rw [Nat.shiftLeft_eq]; exact Nat.mul_ne_zero h0 (by have := Nat.two_pow_pos more; omega)
          have : (R * R != m <<< more) = true := by rw [hr0]; simp; omega
          rw [this] at hc; simp at hc
        refine .inr (.inr ⟨false, m, i, _, _, rfl, h0, rfl, hne, ?_⟩)
        have hlt : 2 * R + (R * R != m <<< more).toNat < 2 ^ ((m.log2 + more) / 2 + 1 + 1) := by
          rw [Nat.pow_succ]; omega
        have := (Nat.log2_lt hne).2 hlt
        omega
      · simp at h

theorem fsqrt_gOK {x : Nat} (h : gOK x = true) : gOK (fsqrt x) = true := by
  unfold fsqrt
  cases hs : FloatKind.f64.format.sqrt x with
  | none => decide
  | some y =>
    simp only [Option.getD_some]
    unfold Ieee.Format.sqrt at hs
    obtain ⟨r, h1, h2⟩ := Option.map_eq_some_iff.1 hs
    rw [d_frac] at h1
    subst h2
    rcases root_shape h1 with rfl | ⟨s, e, rfl⟩ | ⟨s, m, i, w, e, hd, h0, rfl, hw, hle⟩
    · decide
    · show gOK (FloatKind.f64.encode (.number s 0 e)) = true
      have : FloatKind.f64.encode (.number s 0 e) = FloatKind.f64.format.word s 0 := by
        show FloatKind.f64.format.nearest s 0 e = _; unfold Ieee.Format.nearest; rw [if_pos rfl]
      rw [this]; cases s <;> decide
    · have hd : FloatKind.f64.decode x = .number s m i := hd
      unfold gOK at h
      rw [hd, Bool.and_eq_true] at h
      have hb := h.2
      simp only [Bool.or_eq_true, beq_iff_eq, h0, false_or, decide_eq_true_eq] at hb
      obtain ⟨q, hq, hql⟩ := write_below (s := false) (m := w) (e := e) (L := 70) hw (by omega) (by decide) (by decide)
      have hq1 : ((70 : Int) + 1023).toNat = 1093 := by decide
      have hq2 : q ≤ 1100 * 2 ^ 52 := by rw [hq1] at hql; omega
      obtain ⟨m', e', h3, h4, h5⟩ := dec_word_small (s := false) (r := q) hq2
      show gOK (FloatKind.f64.encode (.number false w e)) = true
      rw [hq]
      exact gOK_small h3 h4 h5

def S_sqrt : Spec := fun args => match args with
  | [.v (.s (.c (.g x)))] => some [.s (.c (.g (fsqrt x)))]
  | _ => none

theorem sqrt_through (x : Nat) : FloatKind.f64.format.sqrt (canon .f64 x) = FloatKind.f64.format.sqrt x := by
  unfold Ieee.Format.sqrt
  by_cases h : (FloatKind.f64.decode x).isNaN = true
  · obtain ⟨s, t, e⟩ := nan_cases h
    rw [canon_of_nan h]
    have : FloatKind.f64.format.read x = .nan s t := e
    have hc : FloatKind.f64.format.read (cnan .f64) = .nan false (2 ^ 51) := by decide
    rw [this, hc]; rfl
  · rw [canon_of_not (by simpa using h)]

theorem sqrt_eq (b : Nat) : Extern.MathSqrt.sqrt #[.float .f64 b] = (match FloatKind.f64.format.sqrt b with | some r => pure (.float .f64 r) | none => do pure (.float .f64 (← choose (.nanBits .f64 b b)))) := rfl

theorem ok_sqrt {P : Program} {f : FuncId} {fn : Func} (h : Placed P f fn Extern.MathSqrt.sqrt) : SpecOK P f S_sqrt := by
  intro args r hs vs w hv
  unfold S_sqrt at hs
  split at hs
  · cases hs
    obtain ⟨v, rfl, b, rfl, h1, h2⟩ := arg_one hv
    subst h1
    cases hq : FloatKind.f64.format.sqrt b with
    | some r =>
      have hn : canon .f64 r = r := by
        unfold Ieee.Format.sqrt at hq
        obtain ⟨d, h3, h4⟩ := Option.map_eq_some_iff.1 hq
        rw [← h4]
        refine canon_of_not (write_notNaN .f64 d ?_)
        rw [d_frac] at h3
        rcases root_shape h3 with rfl | ⟨s, e, rfl⟩ | ⟨s, m, i, w, e, _, _, rfl, _⟩ <;> rfl
      refine placed_calls h (v := .float .f64 r) (w' := w) ?_ ⟨⟨r, rfl, ?_, fsqrt_gOK h2⟩, Below.refl _ _⟩
      · show (Extern.MathSqrt.sqrt #[.float .f64 b]).run P w = _
        rw [sqrt_eq, hq]; rfl
      · rw [hn]; unfold fsqrt; rw [sqrt_through, hq]; rfl
    | none =>
      refine placed_calls h (v := .float .f64 ((Question.nanBits .f64 b b).cut (w.tape w.drawn (.nanBits .f64 b b)))) (w' := { w with drawn := w.drawn + 1 }) ?_ ⟨⟨_, rfl, ?_, fsqrt_gOK h2⟩, drawnOn_below (.inr rfl)⟩
      · show (Extern.MathSqrt.sqrt #[.float .f64 b]).run P w = _
        rw [sqrt_eq, hq]; rfl
      · unfold fsqrt; rw [sqrt_through, hq]
        exact canon_of_nan (cut_nanBits_nan _ _ _ _)
  · cases hs

end Go.Proofs.Ytkmijohkblmajaa
