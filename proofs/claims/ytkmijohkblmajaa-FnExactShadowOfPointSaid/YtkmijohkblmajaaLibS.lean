/- Plain laws of floats: sizes, smallness, sameness, sums and products in either order, roots. -/
import Derived.Test.YtkmijohkblmajaaLibR
namespace Go.Proofs.Ytkmijohkblmajaa
open Go Go.RowKit

theorem opp_read (k : FloatKind) (x : Nat) : k.decode (Op.negFloat k x) = (k.decode x).opposite := by
  have hm := negFloat_mod k x
  have hs : (Op.negFloat k x / k.format.signWeight % 2 == 1) = !(x / k.format.signWeight % 2 == 1) := by
    unfold Op.negFloat
    have e : k.format.signWeight = 2 ^ (k.format.exponentBits + k.format.fractionBits) := rfl
    rw [e, Nat.xor_div_two_pow, Nat.div_self (Nat.two_pow_pos _)]
    have h2 := @Nat.xor_mod_two_eq_one (x / 2 ^ (k.format.exponentBits + k.format.fractionBits)) 1
    generalize x / 2 ^ (k.format.exponentBits + k.format.fractionBits) = q at *
    rcases Nat.mod_two_eq_zero_or_one q with h | h
    · have : (q ^^^ 1) % 2 = 1 := h2.2 (by simp [h])
      rw [this, h]; rfl
    · have : ¬ (q ^^^ 1) % 2 = 1 := fun hc => h2.1 hc (by simp [h])
      have : (q ^^^ 1) % 2 = 0 := by omega
      rw [this, h]; rfl
  unfold FloatKind.decode Ieee.Format.read
  dsimp only
  rw [hm, hs]
  split
  · rfl
  · split
    · rfl
    · split <;> rfl

theorem fneg_read {k : FloatKind} {x : Nat} (h : (k.decode x).isNaN = false) : k.decode (fneg k x) = (k.decode x).opposite := by
  unfold fneg
  rw [canon_of_not (by rw [negFloat_isNaN]; exact h), opp_read]

theorem fwide_number {x : Nat} {s : Bool} {m : Nat} {e : Int} (h : FloatKind.f32.decode x = .number s m e) : FloatKind.f64.decode (fwide x) = .number s (wideM m) (wideE m e) := by
  have : fwide x = FloatKind.f64.encode (.number s m e) := by unfold fwide; rw [h]
  rw [this, wide_read (normS h)]
theorem fwide_inf {x : Nat} {s : Bool} (h : FloatKind.f32.decode x = .infinity s) : FloatKind.f64.decode (fwide x) = .infinity s := by
  have : fwide x = FloatKind.f64.encode (.infinity s) := by unfold fwide; rw [h]
  rw [this]; cases s <;> decide
theorem fwide_nan {x : Nat} (h : (FloatKind.f32.decode x).isNaN = true) : (FloatKind.f64.decode (fwide x)).isNaN = true := by
  obtain ⟨s, t, he⟩ := nan_cases h
  have : fwide x = cnan .f64 := by unfold fwide; rw [he]
  rw [this]; exact cnan_nan _

theorem nabs_read {x : Nat} (h : (FloatKind.f32.decode x).isNaN = false) : FloatKind.f32.decode (nabs x) = dabs (FloatKind.f32.decode x) := by
  cases hd : FloatKind.f32.decode x with
  | nan s t => rw [hd] at h; cases h
  | infinity s =>
    have h1 := fwide_inf hd
    have h2 : FloatKind.f64.decode (fabs (fwide x)) = .infinity false := by rw [fabs_read (by rw [h1]; rfl), h1]; rfl
    have h3 : nabs x = FloatKind.f32.encode (.infinity false) := by unfold nabs fnarrow; rw [h2]
    rw [h3]; cases s <;> decide
  | number s m e =>
    have hn := normS hd
    have h1 := fwide_number hd
    have h2 : FloatKind.f64.decode (fabs (fwide x)) = .number false (wideM m) (wideE m e) := by rw [fabs_read (by rw [h1]; rfl), h1]; rfl
    have h3 : nabs x = FloatKind.f32.encode (.number false (wideM m) (wideE m e)) := by unfold nabs fnarrow; rw [h2]
    rw [h3, narrow_write hn, read_rungS hn]; rfl
theorem nabs_nan {x : Nat} (h : (FloatKind.f32.decode x).isNaN = true) : nabs x = cnan .f32 := by
  have h1 := fwide_nan h
  obtain ⟨s, t, h2⟩ := nan_cases (show (FloatKind.f64.decode (fabs (fwide x))).isNaN = true by rw [fabs_isNaN]; exact h1)
  unfold nabs fnarrow; rw [h2]

/-! ### Orders, on what words stand for -/

theorem order_nan {k : FloatKind} {x y : Nat} (h : (k.decode x).isNaN = true) : k.format.order x y = none := order_nan_l h
theorem order_nan' {k : FloatKind} {x y : Nat} (h : (k.decode y).isNaN = true) : k.format.order x y = none := order_nan_r h
theorem order_def {k : FloatKind} {x y : Nat} : k.format.order x y = (k.decode x).order (k.decode y) := rfl

theorem order_self {k : FloatKind} (x : Nat) : k.format.order x x = if (k.decode x).isNaN then none else some .eq := by
  rw [order_def]
  cases k.decode x with
  | nan s t => rfl
  | infinity s => cases s <;> rfl
  | number s m e =>
    simp only [Ieee.Datum.order, Ieee.Datum.isNaN, Bool.false_eq_true, if_false]
    rw [Int.compare_eq_eq.2 rfl]
theorem fne_self {k : FloatKind} (x : Nat) : fne k x x = (k.decode x).isNaN := by
  unfold fne; rw [order_self]; cases (k.decode x).isNaN <;> rfl

/-- A number without its sign: what both ways of writing it yield, in comparisons. -/
def nsz (x : Nat) : Nat := bif flt .f32 x 0 then fneg .f32 x else x

theorem dec_zero : FloatKind.f32.decode 0 = .number false 0 (-149) := by decide

theorem signed_zero (s : Bool) (u : Nat) : Ieee.signed s 0 u = 0 := by unfold Ieee.signed; cases s <;> simp

theorem flt_zero {x : Nat} {s : Bool} {m : Nat} {e : Int} (h : FloatKind.f32.decode x = .number s m e) : flt .f32 x 0 = (s && !(m == 0)) := by
  unfold flt
  rw [order_def, h, dec_zero]
  simp only [Ieee.Datum.order]
  rw [signed_zero]
  have hp := Nat.two_pow_pos (e - min e (-149)).toNat
  unfold Ieee.signed
  rw [Nat.shiftLeft_eq]
  by_cases h0 : m = 0
  · subst h0; cases s <;> simp
  · have hm : 0 < m * 2 ^ (e - min e (-149)).toNat := Nat.mul_pos (Nat.pos_of_ne_zero h0) hp
    cases s
    · have : compare (((m * 2 ^ (e - min e (-149)).toNat : Nat)) : Int) 0 = .gt := Int.compare_eq_gt.2 (by omega)
      simp only [Bool.false_eq_true, if_false, this]; rfl
    · have : compare (-((m * 2 ^ (e - min e (-149)).toNat : Nat) : Int)) 0 = .lt := Int.compare_eq_lt.2 (by omega)
      simp only [if_true, this]
      simp [h0]

/-- Data that stand for the same, up to the sign of zero. -/
inductive Same : Ieee.Datum → Ieee.Datum → Prop
  | refl (d) : Same d d
  | zero (s t e) : Same (.number s 0 e) (.number t 0 e)
theorem same_order {a b c d : Ieee.Datum} (h : Same a b) (h' : Same c d) : a.order c = b.order d := by
  cases h <;> cases h' <;> try rfl
  · rename_i s t e
    cases a <;> simp only [Ieee.Datum.order, signed_zero]
  · rename_i s t e
    cases c <;> simp only [Ieee.Datum.order, signed_zero]
  · simp only [Ieee.Datum.order, signed_zero]

theorem nsz_same (x : Nat) (h : (FloatKind.f32.decode x).isNaN = false) : Same (FloatKind.f32.decode (nabs x)) (FloatKind.f32.decode (nsz x)) := by
  rw [nabs_read h]
  cases hd : FloatKind.f32.decode x with
  | nan s t => rw [hd] at h; cases h
  | infinity s =>
    have hz : flt .f32 x 0 = s := by
      unfold flt; rw [order_def, hd, dec_zero]; cases s <;> rfl
    unfold nsz; rw [hz]
    cases s
    · simp only [cond_false, hd]; exact .refl _
    · simp only [cond_true]; rw [fneg_read h, hd]; exact .refl _
  | number s m e =>
    unfold nsz; rw [flt_zero hd]
    by_cases h0 : m = 0
    · subst h0
      cases s <;> simp only [Bool.false_and, Bool.true_and, BEq.rfl, Bool.not_true, cond_false, hd, dabs] <;> exact .zero _ _ _
    · cases s
      · simp only [Bool.false_and, cond_false, hd]; exact .refl _
      · have : (true && !(m == 0)) = true := by simp [h0]
        rw [this]; simp only [cond_true]; rw [fneg_read h, hd]; exact .refl _

theorem nsz_nan {x : Nat} (h : (FloatKind.f32.decode x).isNaN = true) : (FloatKind.f32.decode (nsz x)).isNaN = true := by
  unfold nsz
  have : flt .f32 x 0 = false := by unfold flt; rw [order_nan h]; rfl
  rw [this]; exact h
theorem nsz_order (x y : Nat) : FloatKind.f32.format.order (nabs x) (nabs y) = FloatKind.f32.format.order (nsz x) (nsz y) := by
  by_cases hx : (FloatKind.f32.decode x).isNaN = true
  · rw [order_nan (nsz_nan hx), order_nan (by rw [nabs_nan hx]; exact cnan_nan _)]
  · by_cases hy : (FloatKind.f32.decode y).isNaN = true
    · rw [order_nan' (nsz_nan hy), order_nan' (by rw [nabs_nan hy]; exact cnan_nan _)]
    · rw [order_def, order_def]
      exact same_order (nsz_same x (by simpa using hx)) (nsz_same y (by simpa using hy))
theorem nsz_gt (x y : Nat) : fgt .f32 (nabs x) (nabs y) = fgt .f32 (nsz x) (nsz y) := by unfold fgt; rw [nsz_order]

/-- Small: its size does not reach the least. -/
def small (a : Nat) : Bool := !(bif fge .f32 a 897581056 then true else fle .f32 a 3045064704)
theorem dec_least : FloatKind.f32.decode 897581056 = .number false 8388608 (-43) := by decide
theorem dec_least' : FloatKind.f32.decode 3045064704 = .number true 8388608 (-43) := by decide
theorem small_eq (a : Nat) : (!fge .f32 (nabs a) 897581056) = small a := by
  unfold small
  congr 1
  by_cases hn : (FloatKind.f32.decode a).isNaN = true
  · unfold fge fle
    rw [nabs_nan hn, order_nan hn, order_nan hn]; decide
  · have hn : (FloatKind.f32.decode a).isNaN = false := by simpa using hn
    unfold fge fle
    rw [order_def, order_def, order_def, nabs_read hn, dec_least, dec_least']
    cases hd : FloatKind.f32.decode a with
    | nan s t => rw [hd] at hn; cases hn
    | infinity s => cases s <;> rfl
    | number s m e =>
      simp only [dabs, Ieee.Datum.order, Ieee.signed]
      have hp : 0 < 8388608 <<< (-43 - min e (-43)).toNat := by rw [Nat.shiftLeft_eq]; exact Nat.mul_pos (by decide) (Nat.two_pow_pos _)
      generalize 8388608 <<< (-43 - min e (-43)).toNat = B at *
      generalize hA : m <<< (e - min e (-43)).toNat = A
      cases s
      · have : compare (A : Int) (-(B : Int)) = .gt := Int.compare_eq_gt.2 (by omega)
        simp only [Bool.false_eq_true, if_false, if_true]
        rw [this]
        cases hc : (compare (A : Int) (B : Int)) <;> rfl
      · simp only [Bool.false_eq_true, if_false, if_true]
        have h1 : compare (-(A : Int)) (B : Int) = .lt := Int.compare_eq_lt.2 (by omega)
        rw [h1]
        have h2 : compare (-(A : Int)) (-(B : Int)) = (compare (A : Int) (B : Int)).swap := by
          rcases Int.lt_trichotomy (A : Int) (B : Int) with h | h | h
          · rw [Int.compare_eq_lt.2 h, Int.compare_eq_gt.2 (by omega)]; rfl
          · rw [Int.compare_eq_eq.2 h, Int.compare_eq_eq.2 (by omega)]; rfl
          · rw [Int.compare_eq_gt.2 h, Int.compare_eq_lt.2 (by omega)]; rfl
        rw [h2]
        cases hc : (compare (A : Int) (B : Int)) <;> rfl

/-! ### Sums and products in either order -/

theorem sum_comm (d e : Ieee.Datum) : d.sum e = e.sum d := by
  cases d with
  | nan s t => cases e <;> rfl
  | infinity s =>
    cases e with
    | nan t u => rfl
    | number t n j => rfl
    | infinity t => cases s <;> cases t <;> rfl
  | number s m i =>
    cases e with
    | nan t u => rfl
    | infinity t => rfl
    | number t n j =>
      simp only [Ieee.Datum.sum]
      rw [Int.min_comm j i, Int.add_comm (Ieee.signed t n _), Bool.and_comm t s]
theorem product_comm (d e : Ieee.Datum) : d.product e = e.product d := by
  cases d with
  | nan s t => cases e <;> rfl
  | infinity s =>
    cases e with
    | nan t u => rfl
    | number t n j => rfl
    | infinity t => cases s <;> cases t <;> rfl
  | number s m i =>
    cases e with
    | nan t u => rfl
    | infinity t => rfl
    | number t n j =>
      simp only [Ieee.Datum.product]
      rw [Bool.xor_comm, Nat.mul_comm, Int.add_comm]
theorem fadd_comm (k : FloatKind) (x y : Nat) : fadd k x y = fadd k y x := by
  unfold fadd Ieee.Format.add; rw [sum_comm]
theorem fmul_comm (k : FloatKind) (x y : Nat) : fmul k x y = fmul k y x := by
  unfold fmul Ieee.Format.mul; rw [product_comm]

/-! ### Sameness -/

def sameN (a b : Nat) : Bool := bif (bif fne .f32 a a then true else fne .f32 b b) then (bif fne .f32 a a then fne .f32 b b else false) else ((a : Int) == (b : Int))
def S_sameN : Spec := fun args => match args with
  | [.v (.s (.c (.f .f32 a))), .v (.s (.c (.f .f32 b)))] => some [rB (sameN a b)]
  | _ => none
theorem ok_sameN_of {P : Program} {f : FuncId} {s : Spec} (h : SpecOK P f s) (hs : ∀ a b : Nat, s [.v (.s (.c (.lit (.float .f32 a)))), .v (.s (.c (.lit (.float .f32 b))))] =
    some [rB (bif (bif fne .f32 (canon .f32 a) (canon .f32 a) then true else fne .f32 (canon .f32 b) (canon .f32 b)) then (bif fne .f32 (canon .f32 a) (canon .f32 a) then fne .f32 (canon .f32 b) (canon .f32 b) else false) else ((a : Int) == (b : Int)))]) : SpecOK P f S_sameN := by
  intro args r hr vs w hv
  unfold S_sameN at hr
  split at hr
  · cases hr
    obtain ⟨v, v', rfl, ⟨a, rfl, h1⟩, b, rfl, h2⟩ := arg_two hv
    subst h1 h2
    have := h _ _ (hs a b) [.float .f32 a, .float .f32 b] w (.cons ⟨rfl, rfl⟩ (.cons ⟨rfl, rfl⟩ .nil))
    have he : (bif (bif fne .f32 (canon .f32 a) (canon .f32 a) then true else fne .f32 (canon .f32 b) (canon .f32 b)) then (bif fne .f32 (canon .f32 a) (canon .f32 a) then fne .f32 (canon .f32 b) (canon .f32 b) else false) else ((a : Int) == (b : Int))) = sameN (canon .f32 a) (canon .f32 b) := by
      unfold sameN
      simp only [fne_self, canon_isNaN]
      cases ha : (FloatKind.f32.decode a).isNaN
      · cases hb : (FloatKind.f32.decode b).isNaN
        · rw [canon_of_not ha, canon_of_not hb]
        · rfl
      · rfl
    rw [he] at this
    exact this
  · cases hr

end Go.Proofs.Ytkmijohkblmajaa
