/- Narrow numbers: bounds of roots. -/
import Derived.Test.YtkmijohkblmajaaLibV3
set_option linter.all false
namespace Go.Proofs.Ytkmijohkblmajaa
open Go Go.RowKit

theorem rootFrom_ge (n : Nat) : ∀ todo root : Nat, root ≤ Ieee.Datum.rootFrom n todo root
  | 0, root => Nat.le_refl _
  | todo + 1, root => by
    unfold Ieee.Datum.rootFrom
    dsimp only
    split
    · exact Nat.le_trans (Nat.le_add_right _ _) (rootFrom_ge n todo _)
    · exact rootFrom_ge n todo root
theorem rootFrom_low {n t : Nat} (h : 2 ^ t * 2 ^ t ≤ n) : ∀ todo : Nat, t < todo → 2 ^ t ≤ Ieee.Datum.rootFrom n todo 0
  | 0, ht => by omega
  | todo + 1, ht => by
    unfold Ieee.Datum.rootFrom
    have e : (1 <<< todo : Nat) = 2 ^ todo := Nat.one_shiftLeft todo
    dsimp only
    rw [e, Nat.zero_add]
    split
    · exact Nat.le_trans (Nat.pow_le_pow_right (by decide) (by omega)) (rootFrom_ge n todo _)
    · rename_i hc
      have : t ≠ todo := by rintro rfl; exact hc h
      exact rootFrom_low h todo (by omega)
theorem sqrt_num {x m : Nat} {i : Int} (h : FloatKind.f64.decode x = .number false m i) (h0 : m ≠ 0) :
    ∃ w e, fsqrt x = FloatKind.f64.encode (.number false w e) ∧ w ≠ 0 ∧ (m.log2 : Int) + i - 2 ≤ 2 * ((w.log2 : Int) + e) ∧ 2 * ((w.log2 : Int) + e) ≤ m.log2 + i + 2 := by
  have hr : FloatKind.f64.format.read x = .number false m i := h
  cases hq : (Ieee.Datum.number false m i).root 54 with
  | none => simp [Ieee.Datum.root, h0] at hq
  | some r =>
    have hs : fsqrt x = FloatKind.f64.format.write r := by
      unfold fsqrt Ieee.Format.sqrt
      rw [hr, d_frac]
      show (Option.map _ ((Ieee.Datum.number false m i).root 54)).getD _ = _
      rw [hq]; rfl
    simp only [Ieee.Datum.root] at hq
    rw [if_neg h0] at hq
    simp only [Bool.false_eq_true, if_false, Option.some.injEq] at hq
    subst hq
    refine ⟨_, _, hs, ?_⟩
    generalize hm1 : 2 * 54 - m.log2 + ((i - ((2 * 54 - m.log2 : Nat) : Int)) % 2).toNat = more
    have hlog : (m <<< more).log2 = m.log2 + more := by rw [Nat.shiftLeft_eq, log2_mul_pow _ _ h0]
    have hw := rootFrom_lt (m <<< more) ((m <<< more).log2 / 2 + 1) 0
    have hlow : 2 ^ ((m.log2 + more) / 2) ≤ Ieee.Datum.rootFrom (m <<< more) ((m <<< more).log2 / 2 + 1) 0 := by
      refine rootFrom_low ?_ _ (by rw [hlog]; omega)
      rw [← Nat.pow_add]
      refine pow_le_of_log ?_ (by rw [hlog]; omega)
      rw [Nat.shiftLeft_eq]; exact Nat.mul_ne_zero h0 (by have := Nat.two_pow_pos more; omega)
    rw [hlog] at hw hlow ⊢
    generalize hR : Ieee.Datum.rootFrom (m <<< more) ((m.log2 + more) / 2 + 1) 0 = R at *
    have hb : ∀ b : Bool, b.toNat ≤ 1 := by intro b; cases b <;> decide
    have hb1 := hb (R * R != m <<< more)
    have hp := Nat.two_pow_pos ((m.log2 + more) / 2)
    have hne : 2 * R + (R * R != m <<< more).toNat ≠ 0 := by omega
    have hlt : 2 * R + (R * R != m <<< more).toNat < 2 ^ ((m.log2 + more) / 2 + 1 + 1) := by
      rw [Nat.pow_succ]; omega
    have hge : 2 ^ ((m.log2 + more) / 2 + 1) ≤ 2 * R + (R * R != m <<< more).toNat := by
      rw [Nat.pow_succ]; omega
    have l1 := (Nat.log2_lt hne).2 hlt
    have l2 := log_ge hge
    refine ⟨hne, ?_, ?_⟩ <;> omega
theorem write_zeroD {s : Bool} {e : Int} : FloatKind.f64.decode (FloatKind.f64.encode (.number s 0 e)) = .number s 0 (-1074) := by
  have : FloatKind.f64.encode (.number s 0 e) = FloatKind.f64.format.word s 0 := by
    show FloatKind.f64.format.nearest s 0 e = _; unfold Ieee.Format.nearest; rw [if_pos rfl]
  rw [this]; cases s <;> decide
/-- The root of what is not below zero. -/
theorem root_bounds {a : Nat} {k : Int} (hp : Pos a) (hu : Up a k) (h1 : -200 ≤ k) (h2 : k ≤ 126) :
    Pos (fnarrow (fsqrt (fwide a))) ∧ Up (fnarrow (fsqrt (fwide a))) ((k + 2) / 2 + 2) ∧ ∀ l, -200 ≤ l → Lo a l → Lo (fnarrow (fsqrt (fwide a))) ((l - 2) / 2) := by
  obtain ⟨m, e, hd⟩ := hp
  have hn := normS hd
  have hk : m = 0 ∨ (m.log2 : Int) + e ≤ k := by obtain ⟨s', m', e', g1, g2⟩ := hu; rw [hd] at g1; cases g1; exact g2
  have hwd := fwide_number hd
  by_cases h0 : m = 0
  · subst h0
    have hz : FloatKind.f64.decode (fwide a) = .number false 0 (-1074) := by
      rw [hwd]; unfold wideM wideE; simp
    have hs : fsqrt (fwide a) = FloatKind.f64.encode (.number false 0 (-1074)) := by
      have hr : FloatKind.f64.format.read (fwide a) = .number false 0 (-1074) := hz
      unfold fsqrt Ieee.Format.sqrt
      rw [hr]; simp [Ieee.Datum.root]; rfl
    have hf : fnarrow (fsqrt (fwide a)) = FloatKind.f32.encode (.number false 0 (-1074)) := by
      unfold fnarrow; rw [hs, write_zeroD]
    refine ⟨pos_write hf (.inl rfl), ?_, ?_⟩
    · exact (up_write hf (k := (k + 2) / 2 + 1) (.inl rfl) (by omega) (by omega)).mono (by omega)
    · rintro l hl ⟨s', m', e', g1, g2, g3⟩
      rw [hd] at g1; cases g1; exact absurd rfl g2
  · have hk := hk.resolve_left h0
    have hw0 : wideM m ≠ 0 := Nat.mul_ne_zero h0 (by have := Nat.two_pow_pos (52 - m.log2); omega)
    have hwl : (wideM m).log2 = m.log2 + (52 - m.log2) := log2_mul_pow _ _ h0
    have hwe : wideE m e = e - ((52 - m.log2 : Nat) : Int) := by unfold wideE; rw [if_neg h0]
    obtain ⟨w, j, hs, hwn, l1, l2⟩ := sqrt_num hwd hw0
    rw [hwl, hwe] at l1 l2
    have hL : (0 : Int) ≤ m.log2 := by omega
    obtain ⟨n, i, hd2, _, hb⟩ := write_casesD (s := false) hwn (by omega : (w.log2 : Int) + j ≤ 1022)
    obtain ⟨n0, b1, b2⟩ := hb (by have := hn.2.1; omega)
    have hf : fnarrow (fsqrt (fwide a)) = FloatKind.f32.encode (.number false n i) := by
      unfold fnarrow; rw [hs, hd2]
    refine ⟨pos_write hf (.inr (by omega)), ?_, ?_⟩
    · have := hn.2.1
      exact (up_write hf (k := (k + 2) / 2 + 1) (.inr (by omega)) (by omega) (by omega)).mono (by omega)
    · rintro l hl ⟨s', m', e', g1, g2, g3⟩
      rw [hd] at g1; cases g1
      exact lo_write hf n0 (by omega) (by omega) (by omega)
end Go.Proofs.Ytkmijohkblmajaa
