/- The functions of Go's library that the model holds in place: bits of floats, the size, the root. -/
import Derived.Test.YtkmijohkblmajaaLibQ
import Derived.Laws.Externs
namespace Go.Proofs.Ytkmijohkblmajaa
open Go Go.RowKit

structure Placed (P : Program) (f : FuncId) (fn : Func) (e : Array Value → Sem Value) : Prop where
  at_ : P.funcs[f]? = some fn
  name : (fn.name == "runtime.NumGoroutine") = false
  bare : fn.body.isNone = true
  next : Extern.findNext fn = none
  find : Extern.find fn = some e

theorem placed_calls {P : Program} {f : FuncId} {fn : Func} {e : Array Value → Sem Value} (h : Placed P f fn e) {vs : List Value} {w w' : World} {v : Value} {R : Value → World → Prop} (hr : (e vs.toArray).run P w = .ok v w') (hR : R v w') : CallsTo P f vs w R := by
  unfold CallsTo
  rw [run_callFunc_extern h.at_ h.name h.bare h.next h.find, hr]
  exact hR

def S_bits32 : Spec := fun args => match args with
  | [.v (.s (.c (.lit (.float .f32 b))))] => some [.s (.c (.i .u32 b))]
  | _ => none
def S_bits64 : Spec := fun args => match args with
  | [.v (.s (.c (.lit (.float .f64 b))))] => some [.s (.c (.i .u64 b))]
  | _ => none
def S_from64 : Spec := fun args => match args with
  | [.v (.s (.c (.i .u64 n)))] => some [.s (.c (.f .f64 (canon .f64 n.toNat)))]
  | _ => none

theorem arg_one {α β : Type} {R : α → β → Prop} {x : α} {ys : List β} (h : Each R [x] ys) : ∃ y, ys = [y] ∧ R x y := by
  cases h with | cons h1 h2 => cases h2; exact ⟨_, rfl, h1⟩
theorem arg_two {α β : Type} {R : α → β → Prop} {x x' : α} {ys : List β} (h : Each R [x, x'] ys) : ∃ y y', ys = [y, y'] ∧ R x y ∧ R x' y' := by
  cases h with | cons h1 h2 => cases h2 with | cons h2 h3 => cases h3; exact ⟨_, _, rfl, h1, h2⟩

theorem ok_bits32 {P : Program} {f : FuncId} {fn : Func} (h : Placed P f fn Extern.MathFloatBits.float32bits) : SpecOK P f S_bits32 := by
  intro args r hs vs w hv
  unfold S_bits32 at hs
  split at hs
  · cases hs
    obtain ⟨v, rfl, h1⟩ := arg_one hv
    obtain ⟨h1, _⟩ := h1
    subst h1
    exact placed_calls h (v := .int .u32 _) rfl ⟨rfl, Below.refl _ _⟩
  · cases hs
theorem ok_bits64 {P : Program} {f : FuncId} {fn : Func} (h : Placed P f fn Extern.MathFloatBits.float64bits) : SpecOK P f S_bits64 := by
  intro args r hs vs w hv
  unfold S_bits64 at hs
  split at hs
  · cases hs
    obtain ⟨v, rfl, h1⟩ := arg_one hv
    obtain ⟨h1, _⟩ := h1
    subst h1
    exact placed_calls h (v := .int .u64 _) rfl ⟨rfl, Below.refl _ _⟩
  · cases hs
theorem ok_from64 {P : Program} {f : FuncId} {fn : Func} (h : Placed P f fn Extern.MathFloatBits.float64frombits) : SpecOK P f S_from64 := by
  intro args r hs vs w hv
  unfold S_from64 at hs
  split at hs
  · cases hs
    obtain ⟨v, rfl, h1⟩ := arg_one hv
    obtain rfl := (show v = .int .u64 _ from h1)
    exact placed_calls h (v := .float .f64 _) rfl ⟨⟨_, rfl, rfl⟩, Below.refl _ _⟩
  · cases hs

/-! ### The size -/

/-- A wide number without its sign. -/
def fabs (x : Nat) : Nat := canon .f64 (x % 2 ^ 63)

theorem clear_sign (b : Nat) : ((BitVec.ofInt 64 (b : Int)) &&& ~~~(BitVec.ofInt 64 9223372036854775808)).toNat = b % 2 ^ 63 := by
  have h1 : ~~~(BitVec.ofInt 64 9223372036854775808) = BitVec.ofNat 64 (2 ^ 63 - 1) := by decide
  rw [h1, BitVec.toNat_and, BitVec.toNat_ofNat]
  have h2 : (BitVec.ofInt 64 (b : Int)).toNat = b % 2 ^ 64 := by
    rw [BitVec.toNat_ofInt]; omega
  rw [h2]
  have h3 : (2 ^ 63 - 1) % 2 ^ 64 = 2 ^ 63 - 1 := by decide
  rw [h3, Nat.and_two_pow_sub_one_eq_mod]
  omega

theorem fabs_nan {x : Nat} : (FloatKind.f64.decode (x % 2 ^ 63)).isNaN = (FloatKind.f64.decode x).isNaN := by
  rw [decode_isNaN, decode_isNaN, d_sign, Nat.mod_mod]
theorem fabs_canon (b : Nat) : canon .f64 (b % 2 ^ 63) = fabs (canon .f64 b) := by
  unfold fabs
  by_cases h : (FloatKind.f64.decode b).isNaN = true
  · rw [canon_of_nan (b := b) h, canon_of_nan (by rw [fabs_nan]; exact h)]
    decide
  · rw [canon_of_not (b := b) (by simpa using h)]

/-- What it stands for. -/
def dabs : Ieee.Datum → Ieee.Datum
  | .number _ m e => .number false m e
  | .infinity _ => .infinity false
  | .nan s t => .nan s t
theorem fabs_read {x : Nat} (h : (FloatKind.f64.decode x).isNaN = false) : FloatKind.f64.decode (fabs x) = dabs (FloatKind.f64.decode x) := by
  unfold fabs
  rw [canon_of_not (by rw [fabs_nan]; exact h)]
  rw [decode_isNaN, d_inf, d_sign] at h
  unfold FloatKind.decode Ieee.Format.read
  dsimp only
  rw [d_sign, d_bin, d_inf, d_least, Nat.mod_mod]
  have hz : x % 2 ^ 63 / 2 ^ 63 = 0 := Nat.div_eq_of_lt (Nat.mod_lt _ (by decide))
  rw [hz]
  simp only [decide_eq_false_iff_not, Nat.not_lt] at h
  by_cases h1 : x % 2 ^ 63 < 2 ^ 52
  · rw [if_pos h1, if_pos h1]; rfl
  · rw [if_neg h1, if_neg h1]
    by_cases h2 : x % 2 ^ 63 < 2047 * 2 ^ 52
    · rw [if_pos h2, if_pos h2]; rfl
    · have h3 : x % 2 ^ 63 = 2047 * 2 ^ 52 := Nat.le_antisymm h (Nat.not_lt.1 h2)
      rw [if_neg h2, if_neg h2, if_pos h3, if_pos h3]; rfl
theorem fabs_isNaN {x : Nat} : (FloatKind.f64.decode (fabs x)).isNaN = (FloatKind.f64.decode x).isNaN := by
  unfold fabs; rw [canon_isNaN, fabs_nan]

theorem encode_inf_sign (s t : Bool) (m : Nat) (e : Int) : (FloatKind.f32.decode (FloatKind.f32.encode (.number s m e))).isInfinity = (FloatKind.f32.decode (FloatKind.f32.encode (.number t m e))).isInfinity := by
  have hc : ∀ n d, Ieee.Toward.even.cut s n d = Ieee.Toward.even.cut t n d := fun n d => rfl
  have key : ∀ r, r ≤ 255 * 2 ^ 23 → ∀ s : Bool, (FloatKind.f32.decode (FloatKind.f32.format.word s r)).isInfinity = decide (r = 255 * 2 ^ 23) := by
    intro r hr s
    have hlt : r < FloatKind.f32.format.signWeight := by rw [s_sign]; omega
    unfold FloatKind.decode Ieee.Format.read
    dsimp only
    rw [word_mod _ _ hlt, s_bin, s_inf]
    by_cases h1 : r < 2 ^ 23
    · rw [if_pos h1]; simp [Ieee.Datum.isInfinity]; omega
    · rw [if_neg h1]
      by_cases h2 : r < 255 * 2 ^ 23
      · rw [if_pos h2]; simp [Ieee.Datum.isInfinity]; omega
      · rw [if_neg h2]
        have h3 : r = 255 * 2 ^ 23 := by omega
        rw [if_pos h3]; simp [Ieee.Datum.isInfinity, h3]
  show (FloatKind.f32.decode (FloatKind.f32.format.nearest s m e)).isInfinity = (FloatKind.f32.decode (FloatKind.f32.format.nearest t m e)).isInfinity
  unfold Ieee.Format.nearest
  by_cases h0 : m = 0
  · rw [if_pos h0, if_pos h0, key 0 (by decide), key 0 (by decide)]
  · rw [if_neg h0, if_neg h0]
    dsimp only
    rw [hc, key _ (by rw [s_inf]; exact Nat.min_le_right _ _), key _ (by rw [s_inf]; exact Nat.min_le_right _ _)]

theorem fabs_gOK {x : Nat} (h : gOK x = true) : gOK (fabs x) = true := by
  by_cases hn : (FloatKind.f64.decode x).isNaN = true
  · have : (FloatKind.f64.decode (fabs x)).isNaN = true := by rw [fabs_isNaN]; exact hn
    obtain ⟨s, t, he⟩ := nan_cases this
    unfold gOK fnarrowOK; rw [he]; rfl
  · have hn : (FloatKind.f64.decode x).isNaN = false := by simpa using hn
    unfold gOK fnarrowOK at h ⊢
    rw [fabs_read hn]
    cases hd : FloatKind.f64.decode x with
    | nan s t => rw [hd] at hn; cases hn
    | infinity s => rfl
    | number s m e =>
      rw [hd] at h
      simp only [dabs] at h ⊢
      rw [encode_inf_sign false s]
      exact h

/-- A narrow number without its sign. -/
def nabs (x : Nat) : Nat := fnarrow (fabs (fwide x))

def S_abs : Spec := fun args => match args with
  | [.v (.s (.c (.g x)))] => some [.s (.c (.g (fabs x)))]
  | _ => none

theorem ok_abs_of {P : Program} {f : FuncId} {s : Spec} (h : SpecOK P f s) (hs : ∀ b : Nat, s [.v (.s (.c (.lit (.float .f64 b))))] = some [.s (.c (.f .f64 (canon .f64 (IntKind.u64.wrap ((BitVec.ofInt 64 (b : Int)) &&& ~~~(BitVec.ofInt 64 9223372036854775808)).toNat).toNat)))]) : SpecOK P f S_abs := by
  intro args r hr vs w hv
  unfold S_abs at hr
  split at hr
  · cases hr
    obtain ⟨v, rfl, b, rfl, h1, h2⟩ := arg_one hv
    subst h1
    have := h _ _ (hs b) [.float .f64 b] w (.cons ⟨rfl, rfl⟩ .nil)
    unfold CallsTo at this ⊢
    have hw : IntKind.u64.wrap ((BitVec.ofInt 64 (b : Int)) &&& ~~~(BitVec.ofInt 64 9223372036854775808)).toNat = ((b % 2 ^ 63 : Nat) : Int) := by
      rw [clear_sign]
      have : b % 2 ^ 63 < 2 ^ 63 := Nat.mod_lt _ (by decide)
      unfold IntKind.wrap
      simp [IntKind.bits, IntKind.signed]
      omega
    rw [hw] at this
    have hup : ∀ (u : Value) (w' : World), ((toAV [AE.s (.c (.f .f64 (canon .f64 (((b % 2 ^ 63 : Nat) : Int)).toNat)))]).den (EF w.heap.size) u w' ∧ Below w.heap.size w w') →
        (toAV [AE.s (.c (.g (fabs (canon .f64 b))))]).den (EF w.heap.size) u w' ∧ Below w.heap.size w w' := by
      rintro u w' ⟨⟨b', rfl, h3⟩, hb⟩
      refine ⟨⟨b', rfl, ?_, fabs_gOK h2⟩, hb⟩
      rw [h3, Int.toNat_natCast, fabs_canon]
    split at this
    · exact this.mono fun e w' ⟨u, he, hu⟩ => ⟨u, he, hup _ _ hu⟩
    · exact hup _ _ this
    · exact this.elim
  · cases hr

end Go.Proofs.Ytkmijohkblmajaa
