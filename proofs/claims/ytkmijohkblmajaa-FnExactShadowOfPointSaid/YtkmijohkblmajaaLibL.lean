/- Code, abstractly carried out. -/
import Derived.Test.YtkmijohkblmajaaLibK
namespace Go.Proofs.Ytkmijohkblmajaa
open Go Go.RowKit

/-- A region in the order of its text. -/
def absSeq (P : Program) (Γ : Ctx) (ops : Array Oper) : List Oper → List AObj → AF → Option (List AObj × AF)
  | [], hp, A => some (hp, A)
  | o :: r, hp, A => match absBirth P A o, o.dst with
    | some (cells, sl), some d => if okDst ops A o d = true then absSeq P Γ ops r (hp ++ [⟨true, cells⟩]) (aset A d (.e (birthAE hp.length sl))) else none
    | some _, none => none
    | none, none => match absStore P hp A o with
      | some (id, cells) => absSeq P Γ ops r (hp.set id ⟨true, cells⟩) A
      | none => match absOp P Γ hp ops A o with
        | some _ => absSeq P Γ ops r hp A
        | none => none
    | none, some d => if okDst ops A o d = true then
        match absOp P Γ hp ops A o with
        | some V => absSeq P Γ ops r hp (aset A d V)
        | none => none
      else none

section
variable {P : Program} {Γ : Ctx} {ops : Array Oper} {T : List Nat} {w0 : World}

theorem denF_aset {E E' : Env} {A : AF} {a : Act} {N d : Nat} {w w' : World} {V : AV} {u : Value} (hd : d < N) (hN : a.tmps.size = N) (h : ∀ t, denF E A t (a.tmps.getD t undef) w) (hle : E.Le E' w) (hk : Kept E.M w w') (hV : V.den E' u w') :
    ∀ t, denF E' (aset A d V) t ((a.put (some d) u).tmps.getD t undef) w' := by
  intro t V' hl
  rw [look_aset] at hl
  split at hl
  · rename_i e; subst e; cases hl
    rw [put_tmps_eq rfl (by rw [hN]; exact hd)]; exact hV
  · rename_i e
    rw [put_tmps_ne (fun hc => e (by cases hc; rfl))]
    exact AV.den_kept (h t V' hl) hle hk

theorem absSeq_sound (hΓ : Γ.OK P) {N : Nat} {Q : Exit → Act → World → Prop} : ∀ (l : List Oper) (hp : List AObj) (A : AF) (E : Env) (a : Act) (w : World) {hp' : List AObj} {A' : AF}, WF ops A → St E T w0 hp A N a w →
    (l.all fun o => match o.dst with | some t => decide (t < N) | none => true) = true → absSeq P Γ ops l hp A = some (hp', A') →
    (∀ E' a' w', E.Le E' w → w.heap.size ≤ w'.heap.size → St E' T w0 hp' A' N a' w' → Q .normal a' w') → wpList P ops Q l a w
  | [], hp, A, E, a, w, hp', A', _, hst, _, h, hQ => by cases h; exact hQ E a w (Env.Le.refl _ _) (Nat.le_refl _) hst
  | o :: l, hp, A, E, a, w, hp', A', hwf, hst, hlt, h, hQ => by
    simp only [List.all_cons, Bool.and_eq_true] at hlt
    obtain ⟨hlt0, hltr⟩ := hlt
    have hfacts : ∀ t ∈ o.looksAt ops, denF E A t (a.tmps.getD t undef) w := fun t _ => hst.slots t
    -- an operation that looks
    have look : ∀ (V : AV) (A2 : AF), absOp P Γ hp ops A o = some V → A2 = (match o.dst with | some d => aset A d V | none => A) → WF ops A2 → absSeq P Γ ops l hp A2 = some (hp', A') → wpList P ops Q (o :: l) a w := by
      intro V A2 hV hA2 hwf2 h2
      have hOK := absOp_sound (E := E) (T := T) (w0 := w0) (hp := hp) hΓ hwf (F := denF E A) (fun _ _ _ h => h) hV a w hst.cw hfacts
      have hgo : ∀ u w2, CW E T w0 hp w2 → GB w w2 → V.den E u w2 → wpList P ops Q l (a.put o.dst u) w2 := by
        intro u w2 hC hG hVd
        refine absSeq_sound hΓ l hp A2 E _ w2 hwf2 ⟨?_, hC, by rw [put_size]; exact hst.size, by rw [put_defers]; exact hst.defers⟩ hltr h2 (fun E' a' w' hle hsz hst' => hQ E' a' w' ((Env.Le.refl _ _).trans hle hG.size) (Nat.le_trans hG.size hsz) hst')
        subst hA2
        split
        · rename_i d hd
          rw [hd] at hlt0
          rw [hd]
          exact denF_aset (by simpa using hlt0) hst.size hst.slots (Env.Le.refl _ _) (Kept.of_below hG) hVd
        · rename_i hd
          rw [hd]
          intro t V' hl
          exact AV.den_kept (hst.slots t V' hl) (Env.Le.refl _ _) (Kept.of_below hG)
      unfold wpList
      cases hw : Region.wanted o (yielded ops a.tmps) with
      | false => simp only [Bool.false_eq_true, if_false]; exact hgo undef w hst.cw (Below.refl _ _) (hOK.2 hw)
      | true =>
        simp only [if_true]
        refine .inl ?_
        have hr := hOK.1 hw
        unfold Oper.wp
        generalize (execOp a.eval o).run P w = r at *
        cases r with
        | halt x w' => exact hr.elim
        | ok n w' =>
          cases n <;> first
            | exact hr.elim
            | exact hgo _ _ hr.1 hr.2.1 hr.2.2
            | exact Calls.mono hr fun e w'' ⟨u, he, hC', hG', hv⟩ => by subst he; exact hgo u w'' hC' hG' hv
    simp only [absSeq] at h
    split at h
    · rename_i cells sl d eb ed
      split at h
      · rename_i hok
        obtain ⟨hg, arr, ty, hrun, hcells⟩ := absBirth_sound hwf eb hfacts
        have hnx : ¬ E.ex hp.length := fun hx => by have := hst.cw.1.len _ hx; omega
        have hal := (hst.cw.1.extend [⟨true, cells⟩]).alloc hst.cw.2.size hnx (by simp) ty hcells
        have hle' := Env.add_le (w := w) hnx (Nat.le_refl w.heap.size)
        have hw : Region.wanted o (yielded ops a.tmps) = true := by simp [Region.wanted, hg]
        unfold wpList
        rw [if_pos hw]
        refine .inl ?_
        unfold Oper.wp
        rw [hrun, Oper.upon_value]
        refine absSeq_sound hΓ l _ _ (E.add hp.length w.heap.size) _ _ (hwf.aset (okDst_spec hok).1 fun k β x e => by cases e) ⟨?_, ⟨hal, hst.cw.2.below (alloc_below _ _)⟩, by rw [put_size]; exact hst.size, by rw [put_defers]; exact hst.defers⟩ hltr h
          (fun E' a' w' hle hsz hst' => hQ E' a' w' (hle'.trans hle (by simp)) (by simp at hsz; omega) hst')
        rw [ed] at hlt0 ⊢
        refine denF_aset (by simpa using hlt0) hst.size hst.slots hle' (Kept.of_below (alloc_below _ _)) ?_
        cases sl with
        | none => exact ⟨.inr rfl, by simp [birthVal, Env.add]⟩
        | some len => exact ⟨.inr rfl, len, by simp [birthVal, Env.add]⟩
      · cases h
    · cases h
    · rename_i eb ed
      split at h
      · rename_i id cells es
        obtain ⟨hg, _, w2, hrun, hC2, hk2⟩ := absStore_sound hwf es hst.cw hfacts
        have hw : Region.wanted o (yielded ops a.tmps) = true := by simp [Region.wanted, hg]
        unfold wpList
        rw [if_pos hw]
        refine .inl ?_
        unfold Oper.wp
        rw [hrun, Oper.upon_skip]
        refine absSeq_sound hΓ l _ A E _ _ hwf ⟨?_, hC2, by rw [put_size]; exact hst.size, by rw [put_defers]; exact hst.defers⟩ hltr h
          (fun E' a' w' hle hsz hst' => hQ E' a' w' ((Env.Le.refl _ _).trans hle hk2.size) (Nat.le_trans hk2.size hsz) hst')
        intro t V hl
        rw [ed]
        exact AV.den_kept (hst.slots t V hl) (Env.Le.refl _ _) hk2
      · split at h
        · rename_i V hV
          exact look V A hV (by rw [ed]) hwf h
        · cases h
    · rename_i d eb ed
      split at h
      · rename_i hok
        split at h
        · rename_i V hV
          refine look V _ hV (by rw [ed]) (hwf.aset (okDst_spec hok).1 fun k β x e => ?_) h
          subst e
          obtain ⟨hg, par, hgc⟩ := absOp_gd hV
          exact ⟨(okDst_spec hok).2 k hg, par, hgc⟩
        · cases h
      · cases h
end

/-! ### Code -/

inductive Out where
  | normal
  | ret
  | exit (id : Nat)

def Out.toExit : Out → Exit
  | .normal => .normal
  | .ret => .ret
  | .exit id => .exit id

inductive Tree where
  | bad
  | leaf (e : Out) (hp : List AObj) (A : AF)
  | br (β : Bool) (t e : Tree)

def Tree.then (k : List AObj → AF → Tree) : Tree → Tree
  | .bad => .bad
  | .leaf .normal hp A => k hp A
  | .leaf e hp A => .leaf e hp A
  | .br β t e => .br β (t.then k) (e.then k)

def Tree.inBlock (id : Nat) : Tree → Tree
  | .bad => .bad
  | .leaf (.exit i) hp A => if i = id then .leaf .normal hp A else .leaf (.exit i) hp A
  | .leaf e hp A => .leaf e hp A
  | .br β t e => .br β (t.inBlock id) (e.inBlock id)

def iterT (f : List AObj → AF → Tree) : Nat → List AObj → AF → Tree
  | 0, _, _ => .bad
  | n + 1, hp, A => (f hp A).then (iterT f n)

/-- What may be told of the ways of a tree. -/
def Tree.Sat (Φ : Out → List AObj → AF → Prop) : Tree → Prop
  | .bad => False
  | .leaf e hp A => Φ e hp A
  | .br β t e => (β = true → t.Sat Φ) ∧ (β = false → e.Sat Φ)

theorem Tree.Sat.mono {Φ Ψ : Out → List AObj → AF → Prop} (h : ∀ e hp A, Φ e hp A → Ψ e hp A) : ∀ {t : Tree}, t.Sat Φ → t.Sat Ψ
  | .bad, hs => hs
  | .leaf _ _ _, hs => h _ _ _ hs
  | .br _ _ _, hs => ⟨fun hb => Tree.Sat.mono h (hs.1 hb), fun hb => Tree.Sat.mono h (hs.2 hb)⟩

/-- A code of which both ways come to the same objects, and in which only the slots 'W' may differ. -/
def joinAF (β : Bool) (W : List Nat) : AF → AF → AF → AF
  | [], _, _ => []
  | (t, x) :: r, A1, A2 => if t ∈ W then match look A1 t, look A2 t with
      | some (.e y), some (.e z) => match mergeAE β y z with
        | some m => (t, .e m) :: joinAF β W r A1 A2
        | none => joinAF β W r A1 A2
      | _, _ => joinAF β W r A1 A2
    else (t, x) :: joinAF β W r A1 A2

def writes : Code → List Nat
  | .region _ ops _ => ops.toList.filterMap (·.dst)
  | .seq a b => writes a ++ writes b
  | .cond _ x y => writes x ++ writes y
  | .block _ b => writes b
  | .loop b => writes b
  | .scope b => writes b
  | _ => []
/-- No memory made, none written, and no way out. -/
def plainCode : Code → Bool
  | .region _ ops _ => ops.all fun o => match o.op with | .alloc _ | .box .. | .buildSlice .. | .store .. => false | _ => true
  | .seq a b => plainCode a && plainCode b
  | .cond _ x y => plainCode x && plainCode y
  | .skip => true
  | _ => false

def joinT (β : Bool) (x y : Code) (hp : List AObj) (A : AF) (t e : Tree) : Tree :=
  if plainCode x && plainCode y then match t, e with
    | .leaf .normal _ A1, .leaf .normal _ A2 => .leaf .normal hp (joinAF β (writes x ++ writes y) (strip A) A1 A2)
    | t, e => .br β t e
  else .br β t e

def execC (P : Program) (Γ : Ctx) (N L : Nat) : Code → List AObj → AF → Tree
  | .skip, hp, A => .leaf .normal hp A
  | .region _ ops draw, hp, A =>
    if draw then
      match scan P Γ ops ops.toList hp false (strip A) with
      | some (is, H0, A') => if chkOps ops N && ordOK ops is then .leaf .normal (applyStores (stores is) H0) A' else .bad
      | none => .bad
    else match absSeq P Γ ops ops.toList hp (strip A) with
      | some (hp', A') => if ops.toList.all (fun o => match o.dst with | some t => decide (t < N) | none => true) then .leaf .normal hp' A' else .bad
      | none => .bad
  | .seq x y, hp, A => (execC P Γ N L x hp A).then (execC P Γ N L y)
  | .cond c x y, hp, A => match (evG A none none c).bind AE.bool? with
    | some (β, true) => if β then execC P Γ N L x hp A else execC P Γ N L y hp A
    | some (β, false) => joinT β x y hp A (execC P Γ N L x hp A) (execC P Γ N L y hp A)
    | none => .bad
  | .block id b, hp, A => (execC P Γ N L b hp A).inBlock id
  | .loop b, hp, A => iterT (execC P Γ N L b) L hp A
  | .exit id, hp, A => .leaf (.exit id) hp A
  | .ret, hp, A => .leaf .ret hp A
  | _, _, _ => .bad

section
variable {P : Program} {Γ : Ctx} {T : List Nat} {w0 : World} {N : Nat}

/-- What is known where the code c is left, from a state of E in the world w. -/
def Post (E : Env) (T : List Nat) (w0 : World) (N : Nat) (w : World) (Q : Exit → Act → World → Prop) (e : Out) (hp : List AObj) (A : AF) : Prop :=
  ∀ E' a' w', E.Le E' w → w.heap.size ≤ w'.heap.size → St E' T w0 hp A N a' w' → Q e.toExit a' w'

theorem Tree.sat_then {Φ Ψ : Out → List AObj → AF → Prop} {k : List AObj → AF → Tree} (hn : ∀ hp A, (k hp A).Sat Φ → Ψ .normal hp A) (hr : ∀ e hp A, e ≠ .normal → Φ e hp A → Ψ e hp A) : ∀ {t : Tree}, (t.then k).Sat Φ → t.Sat Ψ
  | .bad, h => h
  | .leaf .normal hp A, h => hn hp A h
  | .leaf .ret hp A, h => hr _ _ _ (by simp) h
  | .leaf (.exit id) hp A, h => hr _ _ _ (by simp) h
  | .br β t e, h => ⟨fun hb => Tree.sat_then hn hr (h.1 hb), fun hb => Tree.sat_then hn hr (h.2 hb)⟩

theorem Tree.sat_inBlock {Φ : Out → List AObj → AF → Prop} {id : Nat} : ∀ {t : Tree}, (t.inBlock id).Sat Φ → t.Sat fun e hp A => match e with | .exit i => if i = id then Φ .normal hp A else Φ (.exit i) hp A | e => Φ e hp A
  | .bad, h => h
  | .leaf .normal hp A, h => h
  | .leaf .ret hp A, h => h
  | .leaf (.exit i) hp A, h => by
    simp only [Tree.inBlock] at h
    simp only [Tree.Sat]
    split at h
    · rename_i e; rw [if_pos e]; exact h
    · rename_i e; rw [if_neg e]; exact h
  | .br β t e, h => ⟨fun hb => Tree.sat_inBlock (h.1 hb), fun hb => Tree.sat_inBlock (h.2 hb)⟩

end
end Go.Proofs.Ytkmijohkblmajaa
