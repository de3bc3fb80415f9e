/- Abstract values (floats by canonical words, numbers, bools, pointers to known objects), what they stand for, and the operations that only look: what they yield. -/
import Derived.Test.YtkmijohkblmajaaLibB
import Derived.Test.YtkmijohkblmajaaLibA3
import Derived.Deep.MidRow
namespace Go.Proofs.Ytkmijohkblmajaa
open Go Go.RowKit

inductive AC where
  | f (k : FloatKind) (x : Nat)
  | b (β : Bool)
  | i (k : IntKind) (n : Int)
  | lit (v : Value)
  | g (x : Nat)
  | ix (n B : Nat)

inductive AS where
  | c (x : AC)
  | st (v : Value)
  | ptr (id off : Nat)
  | slc (id off len : Nat)
  | pref (cs : List AC)
  | sref (cs : List AC) (len : Nat)
  | op (R : VP)
  | pix (id off n B z : Nat)

inductive AE where
  | s (x : AS)
  | agg (xs : List AS)

inductive AV where
  | e (x : AE)
  | tup (xs : List AE)
  | gd (key : Nat × Bool) (β : Bool) (x : AE)

structure Env where
  at_ : Nat → Nat × Nat
  ex : Nat → Prop
  M : Nat → Prop

inductive Each {α β : Type} (R : α → β → Prop) : List α → List β → Prop
  | nil : Each R [] []
  | cons {x y xs ys} : R x y → Each R xs ys → Each R (x :: xs) (y :: ys)

theorem Each.length {α β : Type} {R : α → β → Prop} {xs : List α} {ys : List β} (h : Each R xs ys) : xs.length = ys.length := by
  induction h <;> simp_all
theorem Each.get {α β : Type} {R : α → β → Prop} {xs : List α} {ys : List β} (h : Each R xs ys) : ∀ {i : Nat} {x : α}, xs[i]? = some x → ∃ y, ys[i]? = some y ∧ R x y := by
  induction h with
  | nil => intro i x hx; simp at hx
  | cons hr _ ih =>
    intro i x hx
    cases i with
    | zero => simp at hx; subst hx; exact ⟨_, by simp, hr⟩
    | succ i => simp at hx; obtain ⟨y, hy, h⟩ := ih hx; exact ⟨y, by simpa using hy, h⟩
theorem Each.mono {α β : Type} {R R' : α → β → Prop} {xs : List α} {ys : List β} (h : Each R xs ys) (hr : ∀ x y, R x y → R' x y) : Each R' xs ys := by
  induction h with
  | nil => exact .nil
  | cons h _ ih => exact .cons (hr _ _ h) ih
theorem Each.append {α β : Type} {R : α → β → Prop} {xs xs' : List α} {ys ys' : List β} (h : Each R xs ys) (h' : Each R xs' ys') : Each R (xs ++ xs') (ys ++ ys') := by
  induction h with
  | nil => exact h'
  | cons h _ ih => exact .cons h ih
theorem Each.drop {α β : Type} {R : α → β → Prop} {xs : List α} {ys : List β} (h : Each R xs ys) : ∀ n, Each R (xs.drop n) (ys.drop n) := by
  induction h with
  | nil => intro n; simp; exact .nil
  | cons h t ih => intro n; cases n with
    | zero => exact .cons h t
    | succ n => exact ih n
theorem Each.take {α β : Type} {R : α → β → Prop} {xs : List α} {ys : List β} (h : Each R xs ys) : ∀ n, Each R (xs.take n) (ys.take n) := by
  induction h with
  | nil => intro n; simp; exact .nil
  | cons h t ih => intro n; cases n with
    | zero => exact .nil
    | succ n => exact .cons h (ih n)
theorem Each.map_left {α α' β : Type} {R : α → β → Prop} {f : α' → α} {xs : List α'} {ys : List β} (h : Each (fun x y => R (f x) y) xs ys) : Each R (xs.map f) ys := by
  induction h with
  | nil => exact .nil
  | cons h _ ih => exact .cons h ih
theorem Each.of_map_left {α α' β : Type} {R : α → β → Prop} {f : α' → α} : ∀ {xs : List α'} {ys : List β}, Each R (xs.map f) ys → Each (fun x y => R (f x) y) xs ys
  | [], _, h => by cases h; exact .nil
  | _ :: _, _, h => by cases h with | cons h t => exact .cons h (Each.of_map_left t)

def AC.den : AC → Value → Prop
  | .f k x, v => ∃ b, v = .float k b ∧ canon k b = x
  | .b β, v => v = .bool β
  | .i k n, v => v = .int k n
  | .lit u, v => v = u ∧ u.oneCell' = true
  | .g x, v => ∃ b, v = .float .f64 b ∧ canon .f64 b = x ∧ gOK x = true
  | .ix n B, v => v = .int .i64 n ∧ n < B

theorem AC.den_one {x : AC} {v : Value} (h : x.den v) : v.oneCell' = true := by
  cases x <;> simp only [AC.den] at h
  · obtain ⟨b, rfl, _⟩ := h; rfl
  · subst h; rfl
  · subst h; rfl
  · rw [h.1]; exact h.2
  · obtain ⟨b, rfl, _⟩ := h; rfl
  · rw [h.1]; rfl

def AS.den (E : Env) : AS → VP
  | .c x, v, _ => x.den v
  | .st u, v, _ => v = u ∧ u.oneCell' = true
  | .ptr id off, v, _ => E.ex id ∧ v = .pointer (some ⟨(E.at_ id).1, (E.at_ id).2 + off, none⟩)
  | .slc id off len, v, _ => E.ex id ∧ ∃ cap, v = .slice (some ⟨(E.at_ id).1, (E.at_ id).2 + off, none⟩) len cap
  | .pref cs, v, w => ∃ b o vs, v = .pointer (some ⟨b, o, none⟩) ∧ ¬ E.M b ∧ b < w.heap.size ∧ w.rangeAt b o vs ∧ Each AC.den cs vs
  | .sref cs len, v, w => ∃ b o vs cap, v = .slice (some ⟨b, o, none⟩) len cap ∧ ¬ E.M b ∧ b < w.heap.size ∧ w.rangeAt b o vs ∧ Each AC.den cs vs
  | .pix id off n B z, v, _ => E.ex id ∧ n < B ∧ v = .pointer (some ⟨(E.at_ id).1, (E.at_ id).2 + (off + n * z), none⟩)
  | .op R, v, w => v.oneCell' = true ∧ ∃ S : Nat → Prop, (∀ k, S k → k < w.heap.size ∧ ¬ E.M k) ∧ ∀ w' : World, (∀ k, S k → w'.heap[k]? = w.heap[k]?) → R v w'

def AE.den (E : Env) : AE → VP
  | .s x, v, w => x.den E v w
  | .agg xs, v, w => ∃ vs : List Value, v = .agg vs.toArray ∧ Each (fun x u => x.den E u w) xs vs

def AV.den (E : Env) : AV → VP
  | .e x, v, w => x.den E v w
  | .tup xs, v, w => ∃ vs : List Value, v = .tuple vs.toArray ∧ Each (fun x u => x.den E u w) xs vs
  | .gd _ β x, v, w => (β = true → x.den E v w) ∧ (β = false → v = undef)

theorem AS.den_one {E : Env} {x : AS} {v : Value} {w : World} (h : x.den E v w) : v.oneCell' = true := by
  cases x <;> simp only [AS.den] at h
  · exact AC.den_one h
  · rw [h.1]; exact h.2
  · rw [h.2]; rfl
  · obtain ⟨_, cap, rfl⟩ := h; rfl
  · obtain ⟨b, o, vs, rfl, _⟩ := h; rfl
  · obtain ⟨b, o, vs, cap, rfl, _⟩ := h; rfl
  · exact h.1
  · rw [h.2.2]; rfl

/-- The env has grown: known objects stand where they stood; what is new among what may be written was made behind w. -/
structure Env.Le (E E' : Env) (w : World) : Prop where
  ex : ∀ i, E.ex i → E'.ex i
  at_ : ∀ i, E.ex i → E'.at_ i = E.at_ i
  M : ∀ k, E'.M k → E.M k ∨ w.heap.size ≤ k

theorem Env.Le.refl (E : Env) (w : World) : E.Le E w := ⟨fun _ h => h, fun _ _ => rfl, fun _ h => .inl h⟩
theorem Env.Le.trans {E E' E'' : Env} {w w' : World} (h : E.Le E' w) (h' : E'.Le E'' w') (hw : w.heap.size ≤ w'.heap.size) : E.Le E'' w :=
  ⟨fun i hi => h'.ex i (h.ex i hi), fun i hi => by rw [h'.at_ i (h.ex i hi), h.at_ i hi], fun k hk => (h'.M k hk).elim (h.M k) fun x => .inr (Nat.le_trans hw x)⟩

/-- Nothing that was there has turned, but in blocks that may be written. -/
structure Kept (M : Nat → Prop) (w w' : World) : Prop where
  size : w.heap.size ≤ w'.heap.size
  same : ∀ k, k < w.heap.size → ¬ M k → w'.heap[k]? = w.heap[k]?

theorem Kept.refl (M : Nat → Prop) (w : World) : Kept M w w := ⟨Nat.le_refl _, fun _ _ _ => rfl⟩
theorem Kept.of_below {M : Nat → Prop} {w w' : World} (h : Below w.heap.size w w') : Kept M w w' := ⟨h.size, fun k hk _ => h.block k hk⟩

theorem rangeAt_of_block {w w' : World} {b o : Nat} {vs : List Value} (h : w'.heap[b]? = w.heap[b]?) (hr : w.rangeAt b o vs) : w'.rangeAt b o vs := fun j v hj => by
  rw [World.cell?_of_block (w := w) (a := ⟨b, o + j, none⟩) h]; exact hr j v hj

theorem AS.den_kept {E E' : Env} {x : AS} {v : Value} {w w' : World} (h : x.den E v w) (hE : E.Le E' w) (hk : Kept E.M w w') : x.den E' v w' := by
  have hM : ∀ k, k < w.heap.size → ¬ E.M k → ¬ E'.M k := fun k hk' hn hm => (hE.M k hm).elim hn (fun x => by omega)
  cases x <;> simp only [AS.den] at h ⊢
  · exact h
  · exact h
  · exact ⟨hE.ex _ h.1, by rw [hE.at_ _ h.1]; exact h.2⟩
  · exact ⟨hE.ex _ h.1, by rw [hE.at_ _ h.1]; exact h.2⟩
  · obtain ⟨b, o, vs, hv, hm, hb, hr, he⟩ := h
    exact ⟨b, o, vs, hv, hM b hb hm, Nat.lt_of_lt_of_le hb hk.size, rangeAt_of_block (hk.same b hb hm) hr, he⟩
  · obtain ⟨b, o, vs, cap, hv, hm, hb, hr, he⟩ := h
    exact ⟨b, o, vs, cap, hv, hM b hb hm, Nat.lt_of_lt_of_le hb hk.size, rangeAt_of_block (hk.same b hb hm) hr, he⟩
  · obtain ⟨h1, S, hS, hR⟩ := h
    refine ⟨h1, S, fun k hk' => ⟨Nat.lt_of_lt_of_le (hS k hk').1 hk.size, hM k (hS k hk').1 (hS k hk').2⟩, fun w'' hw'' => hR w'' fun k hk' => ?_⟩
    rw [hw'' k hk', hk.same k (hS k hk').1 (hS k hk').2]
  · exact ⟨hE.ex _ h.1, by rw [hE.at_ _ h.1]; exact h.2⟩

theorem AE.den_kept {E E' : Env} {x : AE} {v : Value} {w w' : World} (h : x.den E v w) (hE : E.Le E' w) (hk : Kept E.M w w') : x.den E' v w' := by
  cases x with
  | s x => exact AS.den_kept h hE hk
  | agg xs => obtain ⟨vs, hv, he⟩ := h; exact ⟨vs, hv, he.mono fun _ _ h => AS.den_kept h hE hk⟩

theorem AV.den_kept {E E' : Env} {x : AV} {v : Value} {w w' : World} (h : x.den E v w) (hE : E.Le E' w) (hk : Kept E.M w w') : x.den E' v w' := by
  cases x with
  | e x => exact AE.den_kept h hE hk
  | tup xs => obtain ⟨vs, hv, he⟩ := h; exact ⟨vs, hv, he.mono fun _ _ h => AE.den_kept h hE hk⟩
  | gd k β x => exact ⟨fun hb => AE.den_kept (h.1 hb) hE hk, h.2⟩

/-! ### Objects -/
structure AObj where
  own : Bool
  cells : List AS

def ObjDen (E : Env) (B0 : Nat) (T : List Nat) (id : Nat) (o : AObj) (w : World) : Prop :=
  ∃ vs, w.rangeAt (E.at_ id).1 (E.at_ id).2 vs ∧ (E.at_ id).1 < w.heap.size ∧ Each (fun x u => x.den E u w) o.cells vs ∧
    (o.own = true → w.there (E.at_ id).1 (E.at_ id).2 vs.length ∧ E.M (E.at_ id).1 ∧ (B0 ≤ (E.at_ id).1 ∨ (E.at_ id).1 ∈ T)) ∧ (o.own = false → ¬ E.M (E.at_ id).1)

structure HDen (E : Env) (B0 : Nat) (T : List Nat) (h : List AObj) (w : World) : Prop where
  len : ∀ id, E.ex id → id < h.length
  obj : ∀ id o, h[id]? = some o → E.ex id → ObjDen E B0 T id o w
  apart : ∀ i j o, h[i]? = some o → o.own = true → E.ex i → E.ex j → i ≠ j → (E.at_ j).1 ≠ (E.at_ i).1
  M : ∀ k, E.M k → ∃ i o, h[i]? = some o ∧ E.ex i ∧ o.own = true ∧ (E.at_ i).1 = k

theorem HDen.kept {E : Env} {B0 : Nat} {T : List Nat} {h : List AObj} {w w' : World} (hh : HDen E B0 T h w) (hk : Below w.heap.size w w') : HDen E B0 T h w' := by
  refine ⟨hh.len, fun id o ho hx => ?_, hh.apart, hh.M⟩
  obtain ⟨vs, h1, h2, h3, h4, h5⟩ := hh.obj id o ho hx
  have hb := hk.block _ h2
  refine ⟨vs, rangeAt_of_block hb h1, Nat.lt_of_lt_of_le h2 hk.size, h3.mono fun _ _ h => AS.den_kept h (Env.Le.refl _ _) (Kept.of_below hk), fun hm => ⟨fun j hj => ?_, (h4 hm).2⟩, h5⟩
  rw [World.cell?_of_block (w := w) (a := ⟨_, _, none⟩) hb, World.frozen?_of_block (w := w) (a := ⟨_, _, none⟩) hb]
  exact (h4 hm).1 j hj

/-! ### What an operation that only looks yields -/

def AE.int? : AE → Option (IntKind × Int × Bool)
  | .s (.c (.i k n)) => some (k, n, false)
  | .s (.st (.int k n)) => some (k, n, true)
  | .s (.c (.ix n _)) => some (.i64, n, false)
  | _ => none
def AE.bool? : AE → Option (Bool × Bool)
  | .s (.c (.b β)) => some (β, false)
  | .s (.st (.bool β)) => some (β, true)
  | _ => none
def AE.float? : AE → Option (FloatKind × Nat)
  | .s (.c (.f k x)) => some (k, x)
  | .s (.c (.g x)) => some (.f64, x)
  | .s (.c (.lit (.float k b))) => some (k, canon k b)
  | _ => none
def mkInt (k : IntKind) (n : Int) (static : Bool) : AE := if static then .s (.st (.int k n)) else .s (.c (.i k n))
def mkBool (β : Bool) (static : Bool) : AE := if static then .s (.st (.bool β)) else .s (.c (.b β))
def mkF (k : FloatKind) (x : Nat) : AE := .s (.c (.f k x))

theorem AE.int?_den {E : Env} {x : AE} {v : Value} {w : World} {k : IntKind} {n : Int} {s : Bool} (h : x.int? = some (k, n, s)) (hd : x.den E v w) : v = .int k n := by
  unfold AE.int? at h
  split at h <;> cases h
  · exact hd
  · exact hd.1
  · exact hd.1
theorem AE.bool?_den {E : Env} {x : AE} {v : Value} {w : World} {β s : Bool} (h : x.bool? = some (β, s)) (hd : x.den E v w) : v = .bool β := by
  unfold AE.bool? at h
  split at h <;> cases h
  · exact hd
  · exact hd.1
theorem AE.float?_den {E : Env} {x : AE} {v : Value} {w : World} {k : FloatKind} {y : Nat} (h : x.float? = some (k, y)) (hd : x.den E v w) : ∃ b, v = .float k b ∧ canon k b = y := by
  unfold AE.float? at h
  split at h <;> cases h
  · exact hd
  · obtain ⟨b, h1, h2, _⟩ := hd; exact ⟨b, h1, h2⟩
  · exact ⟨_, hd.1, rfl⟩
theorem mkInt_den {E : Env} {w : World} {k : IntKind} {n : Int} {s : Bool} : (mkInt k n s).den E (.int k n) w := by
  cases s <;> simp [mkInt, AE.den, AS.den, AC.den, Value.oneCell']
theorem mkBool_den {E : Env} {w : World} {β s : Bool} : (mkBool β s).den E (.bool β) w := by
  cases s <;> simp [mkBool, AE.den, AS.den, AC.den, Value.oneCell']
theorem mkF_den {E : Env} {w : World} {k : FloatKind} {b x : Nat} (h : canon k b = x) : (mkF k x).den E (.float k b) w := ⟨b, rfl, h⟩

def isRowT (P : Program) (t : TypeId) : Option Bool := (P.underlying t).map (·.isRow)
def sizeT (P : Program) (t : TypeId) : Option Nat := (P.info? t).map (·.size)

def floatOp (op : BinOp) (k : FloatKind) (x y : Nat) : Option AE :=
  match op with
  | .add => some (mkF k (fadd k x y))
  | .sub => some (mkF k (fsub k x y))
  | .mul => some (mkF k (fmul k x y))
  | .quo => some (mkF k (fdiv k x y))
  | .eql => some (mkBool (feq k x y) false)
  | .neq => some (mkBool (fne k x y) false)
  | .lss => some (mkBool (flt k x y) false)
  | .leq => some (mkBool (fle k x y) false)
  | .gtr => some (mkBool (fgt k x y) false)
  | .geq => some (mkBool (fge k x y) false)
  | _ => none

def intOp (op : BinOp) (k : IntKind) (x y : Int) (s : Bool) : Option AE :=
  match op with
  | .add => some (mkInt k (k.wrap (x + y)) s)
  | .sub => some (mkInt k (k.wrap (x - y)) s)
  | .mul => some (mkInt k (k.wrap (x * y)) s)
  | .eql => some (mkBool (x == y) s)
  | .neq => some (mkBool (x != y) s)
  | .lss => some (mkBool (decide (x < y)) s)
  | .leq => some (mkBool (decide (x ≤ y)) s)
  | .gtr => some (mkBool (decide (x > y)) s)
  | .geq => some (mkBool (decide (x ≥ y)) s)
  | .andNot => some (mkInt k (k.wrap ((BitVec.ofInt k.bits x) &&& ~~~(BitVec.ofInt k.bits y)).toNat) s)
  | .and => some (mkInt k (k.wrap ((BitVec.ofInt k.bits x) &&& (BitVec.ofInt k.bits y)).toNat) s)
  | .rem => if y = 0 then none else some (mkInt k (x.tmod y) s)
  | .quo => if y = 0 then none else some (mkInt k (k.wrap (x.tdiv y)) s)
  | _ => none

def absBin (P : Program) (op : BinOp) (t : TypeId) (x y : AE) : Option AE :=
  match x.float?, y.float? with
  | some (k, a), some (k', b) => match k, k' with
    | .f32, .f32 => floatOp op .f32 a b
    | .f64, .f64 => floatOp op .f64 a b
    | _, _ => none
  | _, _ =>
  match x.int?, y.int? with
  | some (k, a, s), some (k', b, s') => if k = k' then intOp op k a b (s && s') else none
  | _, _ =>
  match x.bool?, y.bool?, P.underlying t with
  | some (a, s), some (b, s'), some .bool => match op with
    | .eql => some (mkBool (a == b) (s && s'))
    | .neq => some (mkBool (!(a == b)) (s && s'))
    | _ => none
  | _, _, _ => none

theorem run_floatCmp {P : Program} {op : BinOp} {k : FloatKind} {x y : Nat} {E : Env} {w : World} {r : AE}
    (hop : op = .eql ∨ op = .neq ∨ op = .lss ∨ op = .leq ∨ op = .gtr ∨ op = .geq) (h : floatOp op k (canon k x) (canon k y) = some r) : ∃ u, (Op.floatCmp op k x y).run P w = .ok u w ∧ r.den E u w := by
  unfold floatOp feq fne flt fle fgt fge at h
  rw [order_canon] at h
  rcases hop with rfl | rfl | rfl | rfl | rfl | rfl <;> cases h <;> exact ⟨_, rfl, mkBool_den⟩

theorem drawnOn_below {w w' : World} (h : drawnOn w w') : Below w.heap.size w w' := by
  rcases h with rfl | rfl
  · exact Below.refl _ _
  · exact ⟨rfl, rfl, rfl, Nat.le_refl _, fun _ _ => rfl⟩

theorem absBin_sound {P : Program} {E : Env} {w : World} {op : BinOp} {t : TypeId} {x y r : AE} {u v : Value} (h : absBin P op t x y = some r) (hx : x.den E u w) (hy : y.den E v w) (ox oy : Operand) :
    ∃ z w', ((do eqGuard op t ox oy u v; binOp op t u v) : Sem Value).run P w = .ok z w' ∧ r.den E z w' ∧ drawnOn w w' := by
  unfold absBin at h
  split at h
  · rename_i k a k' b e1 e2
    obtain ⟨b1, rfl, h1⟩ := AE.float?_den e1 hx
    obtain ⟨b2, rfl, h2⟩ := AE.float?_den e2 hy
    have hg : ∀ k k' : FloatKind, (eqGuard op t ox oy (.float k b1) (.float k' b2)).run P w = .ok () w := by
      intro k k'; unfold eqGuard; split <;> rfl
    have key : ∀ k : FloatKind, canon k b1 = a → canon k b2 = b → floatOp op k a b = some r → ∃ z w', (binOp op t (.float k b1) (.float k b2)).run P w = .ok z w' ∧ r.den E z w' ∧ drawnOn w w' := by
      intro k h1 h2 h
      subst h1 h2
      cases op <;> (try (simp [floatOp] at h; done))
      case add => obtain ⟨c, w', hr, hc, hd⟩ := run_add (P := P) (k := k) (x := b1) (y := b2) (w := w); cases h; exact ⟨_, w', by simpa [binOp] using hr, mkF_den hc, hd⟩
      case sub => obtain ⟨c, w', hr, hc, hd⟩ := run_sub (P := P) (k := k) (x := b1) (y := b2) (w := w); cases h; exact ⟨_, w', by simpa [binOp] using hr, mkF_den hc, hd⟩
      case mul => obtain ⟨c, w', hr, hc, hd⟩ := run_mul (P := P) (k := k) (x := b1) (y := b2) (w := w); cases h; exact ⟨_, w', by simpa [binOp] using hr, mkF_den hc, hd⟩
      case quo => obtain ⟨c, w', hr, hc, hd⟩ := run_quo (P := P) (k := k) (x := b1) (y := b2) (w := w); cases h; exact ⟨_, w', by simpa [binOp] using hr, mkF_den hc, hd⟩
      all_goals
        obtain ⟨c, hr, hc⟩ := run_floatCmp (P := P) (E := E) (w := w) (by simp) h
        exact ⟨c, w, by simpa [binOp] using hr, hc, .inl rfl⟩
    split at h
    · rw [Sem.run_bind, hg]; exact key _ h1 h2 h
    · rw [Sem.run_bind, hg]; exact key _ h1 h2 h
    · cases h
  · split at h
    · rename_i k a s k' b s' e1 e2
      have e1 := AE.int?_den e1 hx
      have e2 := AE.int?_den e2 hy
      subst e1 e2
      split at h
      · rename_i hk
        subst hk
        have hg : (eqGuard op t ox oy (.int k a) (.int k b)).run P w = .ok () w := by unfold eqGuard; split <;> rfl
        rw [Sem.run_bind, hg]
        cases op <;> (try (simp [intOp] at h; done))
        case add => cases h; exact ⟨.int k _, w, by simp [binOp, Op.intArith], mkInt_den, .inl rfl⟩
        case sub => cases h; exact ⟨.int k _, w, by simp [binOp, Op.intArith], mkInt_den, .inl rfl⟩
        case mul => cases h; exact ⟨.int k _, w, by simp [binOp, Op.intArith], mkInt_den, .inl rfl⟩
        case eql => cases h; exact ⟨.bool _, w, by simp [binOp, Op.intCmp], mkBool_den, .inl rfl⟩
        case neq => cases h; exact ⟨.bool _, w, by simp [binOp, Op.intCmp], mkBool_den, .inl rfl⟩
        case lss => cases h; exact ⟨.bool _, w, by simp [binOp, Op.intCmp], mkBool_den, .inl rfl⟩
        case leq => cases h; exact ⟨.bool _, w, by simp [binOp, Op.intCmp], mkBool_den, .inl rfl⟩
        case gtr => cases h; exact ⟨.bool _, w, by simp [binOp, Op.intCmp], mkBool_den, .inl rfl⟩
        case geq => cases h; exact ⟨.bool _, w, by simp [binOp, Op.intCmp], mkBool_den, .inl rfl⟩
        case andNot => cases h; exact ⟨.int k _, w, by simp [binOp, Op.intBits], mkInt_den, .inl rfl⟩
        case and => cases h; exact ⟨.int k _, w, by simp [binOp, Op.intBits], mkInt_den, .inl rfl⟩
        case rem =>
          simp only [intOp] at h
          split at h
          · cases h
          · rename_i h0; cases h; exact ⟨.int k _, w, by simp [binOp, Op.intDiv, h0], mkInt_den, .inl rfl⟩
        case quo =>
          simp only [intOp] at h
          split at h
          · cases h
          · rename_i h0; cases h; exact ⟨.int k _, w, by simp [binOp, Op.intDiv, h0], mkInt_den, .inl rfl⟩
      · cases h
    · split at h
      · rename_i a s b s' e1 e2 e3
        have e1 := AE.bool?_den e1 hx
        have e2 := AE.bool?_den e2 hy
        subst e1 e2
        have hg : (eqGuard op t ox oy (.bool a) (.bool b)).run P w = .ok () w := by unfold eqGuard; split <;> rfl
        have he : (Op.equal t (.bool a) (.bool b)).run P w = .ok (a == b) w := by
          unfold Op.equal Op.maxDepth Op.equalIn
          rw [Sem.run_bind, run_underlying e3]; rfl
        rw [Sem.run_bind, hg]
        split at h <;> cases h
        · exact ⟨_, w, by simp [binOp, he, Result.andThen], mkBool_den, .inl rfl⟩
        · exact ⟨_, w, by simp [binOp, he, Result.andThen], mkBool_den, .inl rfl⟩
      · cases h

end Go.Proofs.Ytkmijohkblmajaa
