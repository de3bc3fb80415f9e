/- The abstract walk of a region is a walk by predicates. -/
import Derived.Test.YtkmijohkblmajaaLibE
namespace Go.Proofs.Ytkmijohkblmajaa
open Go Go.RowKit

/-- Of what was there at the beginning nothing has turned, but for the blocks T. -/
structure KeptT (T : List Nat) (w0 w : World) : Prop where
  os : w.os = w0.os
  tape : w.tape = w0.tape
  output : w.output = w0.output
  size : w0.heap.size ≤ w.heap.size
  block : ∀ k, k < w0.heap.size → k ∉ T → w.heap[k]? = w0.heap[k]?

theorem KeptT.refl (T : List Nat) (w : World) : KeptT T w w := ⟨rfl, rfl, rfl, Nat.le_refl _, fun _ _ _ => rfl⟩
theorem KeptT.below {T : List Nat} {w0 w w' : World} (h : KeptT T w0 w) (hb : Below w.heap.size w w') : KeptT T w0 w' :=
  ⟨hb.os.trans h.os, hb.tape.trans h.tape, hb.output.trans h.output, Nat.le_trans h.size hb.size, fun k hk ht => by rw [hb.block k (Nat.lt_of_lt_of_le hk h.size), h.block k hk ht]⟩
theorem KeptT.to_below {w0 w : World} (h : KeptT [] w0 w) : Below w0.heap.size w0 w := ⟨h.os, h.tape, h.output, h.size, fun k hk => h.block k hk (by simp)⟩

def CW (E : Env) (T : List Nat) (w0 : World) (hp : List AObj) (w : World) : Prop := HDen E w0.heap.size T hp w ∧ KeptT T w0 w
theorem CW.below {E : Env} {T : List Nat} {w0 : World} {hp : List AObj} {w w' : World} (h : CW E T w0 hp w) (hb : Below w.heap.size w w') : CW E T w0 hp w' := ⟨h.1.kept hb, h.2.below hb⟩
def GB (w w' : World) : Prop := Below w.heap.size w w'

def denF (E : Env) (A : AF) : Nat → VP := fun t v w => ∀ V, look A t = some V → V.den E v w

theorem stab_den {E : Env} {C : World → Prop} (V : AV) : Stab C GB (V.den E) := fun _ _ _ h _ hg _ => AV.den_kept h (Env.Le.refl _ _) (Kept.of_below hg)

theorem undef_not_bool (β : Bool) : undef ≠ .bool β := by unfold undef; intro h; cases h

theorem getD_some {a : Array Value} {t : Nat} {v : Value} (h : a.getD t undef = v) (hv : v ≠ undef) : a[t]? = some v := by
  simp only [Array.getD_eq_getD_getElem?] at h
  cases hq : a[t]? with
  | none => rw [hq] at h; exact absurd h.symm hv
  | some u => rw [hq] at h; simp at h; rw [h]

theorem yielded_bool {ops : Array Oper} {tmps : Array Value} {k : Nat × Bool} {t : Nat} {β : Bool} (hs : guardSlot ops k = some t) (h : tmps.getD t undef = .bool β) : yielded ops tmps k.1 = some β := by
  unfold yielded
  unfold guardSlot at hs
  rw [hs]
  simp only [Option.bind_some]
  rw [getD_some h (fun e => undef_not_bool β e.symm)]
theorem yielded_undef {ops : Array Oper} {tmps : Array Value} {k : Nat × Bool} {t : Nat} (hs : guardSlot ops k = some t) (h : tmps.getD t undef = undef) : yielded ops tmps k.1 = none := by
  unfold yielded
  unfold guardSlot at hs
  rw [hs]
  simp only [Option.bind_some]
  cases hq : tmps[t]? with
  | none => rfl
  | some u =>
    simp only [Array.getD_eq_getD_getElem?, hq, Option.getD_some] at h
    subst h; rfl

def WF (ops : Array Oper) (A : AF) : Prop := ∀ t k β x, look A t = some (.gd k β x) → ∃ par, gcond ops A k = some (β, par)

theorem mem_looks_operand {ops : Array Oper} {o : Oper} {t : Nat} (h : Operand.tmp t ∈ o.op.operands.toList) : t ∈ o.looksAt ops := by
  unfold Oper.looksAt
  exact List.mem_append.2 (.inl (List.mem_filterMap.2 ⟨_, h, rfl⟩))
theorem mem_looks_guard {ops : Array Oper} {o : Oper} {k : Nat × Bool} {t : Nat} (hg : o.guard = some k) (hs : guardSlot ops k = some t) : t ∈ o.looksAt ops := by
  obtain ⟨g, b⟩ := k
  unfold Oper.looksAt
  refine List.mem_append.2 (.inr ?_)
  unfold guardSlot at hs
  simp only [hg]
  rw [hs]; simp

/-- What a guard's condition is worth. -/
theorem gcond_wanted {E : Env} {ops : Array Oper} {A : AF} {a : Act} {w : World} {k : Nat × Bool} {c : Bool} {par : Option (Nat × Bool)} {o : Oper} (hg : o.guard = some k)
    (hf : ∀ t ∈ o.looksAt ops, denF E A t (a.tmps.getD t undef) w) (h : gcond ops A k = some (c, par)) : Region.wanted o (yielded ops a.tmps) = c := by
  obtain ⟨g, want⟩ := k
  unfold gcond at h
  unfold Region.wanted
  simp only [hg]
  cases hs : guardSlot ops (g, want) with
  | none => simp [hs] at h
  | some t =>
    simp only [hs, Option.bind_some] at h
    have hd := hf t (mem_looks_guard hg hs)
    split at h
    · rename_i x e
      split at h
      · rename_i β s eb
        cases h
        have := AE.bool?_den eb (hd _ e)
        rw [yielded_bool (k := (g, want)) hs this]
        cases β <;> cases want <;> rfl
      · cases h
    · rename_i pk βp x e
      split at h
      · rename_i β s eb
        cases h
        have hx := hd _ e
        cases βp
        · rw [yielded_undef (k := (g, want)) hs (hx.2 rfl)]; rfl
        · have := AE.bool?_den eb (hx.1 rfl)
          rw [yielded_bool (k := (g, want)) hs this]
          cases β <;> cases want <;> rfl
      · cases h
    · cases h

/-- Behind a guard that has said yes: what stands behind that very guard, or behind the one that it stands behind. -/
structure Behind (ops : Array Oper) (A : AF) (cur par : Option (Nat × Bool)) : Prop where
  cur : ∀ k, cur = some k → ∃ c p, gcond ops A k = some (c, p) ∧ c = true
  par : ∀ k, par = some k → ∃ c p, gcond ops A k = some (c, p) ∧ c = true

theorem Behind.open_ {ops : Array Oper} {A : AF} : Behind ops A none none := ⟨(fun _ h => by cases h), (fun _ h => by cases h)⟩

theorem gcond_par {ops : Array Oper} {A : AF} (hwf : WF ops A) {k : Nat × Bool} {c : Bool} {pk : Nat × Bool} (h : gcond ops A k = some (c, some pk)) (hc : c = true) : ∃ c' p, gcond ops A pk = some (c', p) ∧ c' = true := by
  unfold gcond at h
  cases hs : guardSlot ops k with
  | none => simp [hs] at h
  | some t =>
    simp only [hs, Option.bind_some] at h
    split at h
    · split at h <;> cases h
    · rename_i pk' βp x e
      split at h
      · rename_i β s eb
        simp only [Option.some.injEq, Prod.mk.injEq] at h
        obtain ⟨h1, rfl⟩ := h
        subst h1
        obtain ⟨p, hp⟩ := hwf t _ _ _ e
        refine ⟨βp, p, hp, ?_⟩
        cases βp
        · simp at hc
        · rfl
      · cases h
    · cases h

theorem evG_den {E : Env} {ops : Array Oper} {A : AF} {a : Act} {w : World} {cur par : Option (Nat × Bool)} (hwf : WF ops A) (hb : Behind ops A cur par) {x : Operand} {ae : AE}
    (hf : ∀ t, x = .tmp t → denF E A t (a.tmps.getD t undef) w) (h : evG A cur par x = some ae) : ae.den E (a.eval x) w := by
  cases x with
  | tmp t =>
    have hd := hf t rfl
    simp only [evG] at h
    simp only [Act.eval]
    split at h
    · rename_i y e; cases h; exact hd _ e
    · rename_i k β y e
      obtain ⟨p, hp⟩ := hwf t _ _ _ e
      split at h
      · rename_i hk
        cases h
        obtain ⟨c, p', hc, hct⟩ := hb.cur k hk
        rw [hp] at hc; cases hc
        exact (hd _ e).1 hct
      · split at h
        · rename_i hk
          cases h
          obtain ⟨c, p', hc, hct⟩ := hb.par k hk
          rw [hp] at hc; cases hc
          exact (hd _ e).1 hct
        · cases h
    · cases h
  | const v => exact constAE_den h
  | global g => cases h
  | func f => cases h; exact ⟨rfl, rfl⟩

theorem port_den {E : Env} {x : AS} {v : Value} {w : World} (hp : x.port = true) (h : x.den E v w) : x.norm.den E0 v w := by
  refine norm_den ?_
  cases x <;> simp only [AS.port] at hp <;> simp only [AS.den] at h ⊢
  · exact h
  · exact h
  · cases hp
  · cases hp
  · obtain ⟨b, o, vs, h1, _, h2⟩ := h; exact ⟨b, o, vs, h1, fun x => x, h2⟩
  · obtain ⟨b, o, vs, cap, h1, _, h2⟩ := h; exact ⟨b, o, vs, cap, h1, fun x => x, h2⟩
  · obtain ⟨h1, S, hS, hR⟩ := h; exact ⟨h1, S, fun k hk => ⟨(hS k hk).1, fun x => x⟩, hR⟩
  · cases hp

theorem port_each {E : Env} {w : World} : ∀ {xs : List AS} {vs : List Value}, xs.all AS.port = true → Each (fun (x : AS) u => x.den E u w) xs vs → Each (fun (x : AS) u => x.den E0 u w) (xs.map AS.norm) vs
  | [], _, _, h => by cases h; exact .nil
  | x :: xs, _, hp, h => by
    cases h with
    | cons h1 h2 =>
      simp only [List.all_cons, Bool.and_eq_true] at hp
      exact .cons (port_den hp.1 h1) (port_each hp.2 h2)

theorem rangeAt_drop {w : World} {b o : Nat} {vs : List Value} (h : w.rangeAt b o vs) (off : Nat) : w.rangeAt b (o + off) (vs.drop off) := fun j v hj => by
  rw [List.getElem?_drop] at hj
  have := h (off + j) v hj
  rwa [← Nat.add_assoc] at this

theorem toArg_den {E : Env} {B0 : Nat} {T : List Nat} {hp : List AObj} {w : World} (hh : HDen E B0 T hp w) {x : AE} {y : AArg} {v : Value} (h : toArg hp x = some y) (hx : x.den E v w) : y.den w v := by
  unfold toArg at h
  split at h
  · rename_i id off
    split at h
    · rename_i ob e
      split at h
      · rename_i hall
        cases h
        obtain ⟨vs, h1, h2, h3, _⟩ := hh.obj id ob e hx.1
        exact ⟨_, _, _, hx.2, h2, rangeAt_drop h1 off, port_each hall (h3.drop off)⟩
      · cases h
    · cases h
  · rename_i id off len
    split at h
    · rename_i ob e
      split at h
      · rename_i hall
        cases h
        obtain ⟨vs, h1, h2, h3, _⟩ := hh.obj id ob e hx.1
        obtain ⟨_, cap, hx⟩ := hx
        exact ⟨_, _, _, cap, hx, h2, rangeAt_drop h1 off, port_each hall (h3.drop off)⟩
      · cases h
    · cases h
  · cases h
    obtain ⟨b, o, vs, h1, _, h2, h3, h4⟩ := hx
    exact ⟨b, o, vs, h1, h2, h3, each_c h4⟩
  · rename_i cs len
    cases h
    obtain ⟨b, o, vs, cap, h1, _, h2, h3, h4⟩ := hx
    exact ⟨b, o, vs, cap, h1, h2, h3, each_c h4⟩
  · cases h
  · rename_i s n1 n2 n3 n4 n5
    cases h
    refine port_den (E := E) ?_ hx
    cases s <;> first | rfl | (exact absurd rfl (n1 _ _)) | (exact absurd rfl (n2 _ _ _)) | (exact absurd rfl (n5 _ _ _ _ _))
  · rename_i xs
    split at h
    · rename_i hall
      cases h
      obtain ⟨vs, e, he⟩ := hx
      exact ⟨vs, e, port_each hall he⟩
    · cases h

theorem HDen.M_lt {E : Env} {B0 : Nat} {T : List Nat} {hp : List AObj} {w : World} (hh : HDen E B0 T hp w) {k : Nat} (h : E.M k) : k < w.heap.size := by
  obtain ⟨i, o, ho, hx, _, rfl⟩ := hh.M k h
  obtain ⟨vs, _, h2, _⟩ := hh.obj i o ho hx
  exact h2

/-- What a callee hands back, in the caller's eyes. -/
theorem AS.den_back {E : Env} {n : Nat} (hM : ∀ k, E.M k → k < n) {x : AS} {v : Value} {w : World} (h : x.den (EF n) v w) : x.den E v w := by
  have hn : ∀ b, ¬ (EF n).M b → ¬ E.M b := fun b hb he => hb (hM b he)
  cases x <;> simp only [AS.den] at h ⊢
  · exact h
  · exact h
  · exact h.1.elim
  · exact h.1.elim
  · obtain ⟨b, o, vs, h1, h2, h3⟩ := h; exact ⟨b, o, vs, h1, hn b h2, h3⟩
  · obtain ⟨b, o, vs, cap, h1, h2, h3⟩ := h; exact ⟨b, o, vs, cap, h1, hn b h2, h3⟩
  · obtain ⟨h1, S, hS, hR⟩ := h; exact ⟨h1, S, fun k hk => ⟨(hS k hk).1, hn k (hS k hk).2⟩, hR⟩
  · exact h.1.elim
theorem AE.den_back {E : Env} {n : Nat} (hM : ∀ k, E.M k → k < n) {x : AE} {v : Value} {w : World} (h : x.den (EF n) v w) : x.den E v w := by
  cases x with
  | s x => exact AS.den_back hM h
  | agg xs => obtain ⟨vs, e, he⟩ := h; exact ⟨vs, e, he.mono fun _ _ h => AS.den_back hM h⟩
theorem AV.den_back {E : Env} {n : Nat} (hM : ∀ k, E.M k → k < n) {x : AV} {v : Value} {w : World} (h : x.den (EF n) v w) : x.den E v w := by
  cases x with
  | e x => exact AE.den_back hM h
  | tup xs => obtain ⟨vs, e, he⟩ := h; exact ⟨vs, e, he.mono fun _ _ h => AE.den_back hM h⟩
  | gd k β x => exact ⟨fun hb => AE.den_back hM (h.1 hb), h.2⟩

theorem armG_den {E : Env} {ops : Array Oper} {A : AF} {a : Act} {w : World} {cur par : Option (Nat × Bool)} (hwf : WF ops A) (hb : Behind ops A cur par) {tc : Nat} {side : Bool} {x : Operand} {ae : AE}
    (hf : ∀ t, x = .tmp t → denF E A t (a.tmps.getD t undef) w) (h : armG ops A tc side cur par x = some ae)
    (hc : ∀ k : Nat × Bool, k.2 = side → guardSlot ops k = some tc → ∀ c p, gcond ops A k = some (c, p) → c = true) : ae.den E (a.eval x) w := by
  cases x with
  | tmp t =>
    have hd := hf t rfl
    simp only [armG] at h
    simp only [Act.eval]
    split at h
    · rename_i k β y e
      obtain ⟨p, hp⟩ := hwf t _ _ _ e
      split at h
      · rename_i hk
        cases h
        exact (hd _ e).1 (hc k hk.1 hk.2 _ _ hp)
      · split at h
        · rename_i hk
          cases h
          obtain ⟨c, p', hc', hct⟩ := hb.cur k hk
          rw [hp] at hc'; cases hc'
          exact (hd _ e).1 hct
        · split at h
          · rename_i hk
            cases h
            obtain ⟨c, p', hc', hct⟩ := hb.par k hk
            rw [hp] at hc'; cases hc'
            exact (hd _ e).1 hct
          · cases h
    · rename_i y e; cases h; exact hd _ e
    · cases h
  | const v => exact evG_den hwf hb hf h
  | global g => exact evG_den hwf hb hf h
  | func f => exact evG_den hwf hb hf h

end Go.Proofs.Ytkmijohkblmajaa
