/- Code by its abstract walk; a function by its own. -/
import Derived.Test.YtkmijohkblmajaaLibL
import Derived.Deep.LoopGhost
namespace Go.Proofs.Ytkmijohkblmajaa
open Go Go.RowKit

/-! ### What plain code leaves alone -/
def Keep (W : List Nat) (hp : List AObj) (A : AF) (hp1 : List AObj) (A1 : AF) : Prop :=
  hp1 = hp ∧ ∀ t, t ∉ W → ∀ V, look A t = some V → (∀ k β x, V ≠ .gd k β x) → look A1 t = some V

def Tree.All (Φ : Out → List AObj → AF → Prop) : Tree → Prop
  | .bad => True
  | .leaf e hp A => Φ e hp A
  | .br _ t e => t.All Φ ∧ e.All Φ

theorem look_strip' {A : AF} {t : Nat} {V : AV} (h : look A t = some V) (hV : ∀ k β x, V ≠ .gd k β x) : look (strip A) t = some V := by
  induction A with
  | nil => cases h
  | cons p r ih =>
    obtain ⟨s, x⟩ := p
    simp only [look] at h
    by_cases hs : s = t
    · subst hs
      rw [if_pos rfl] at h
      cases h
      cases V with
      | gd k β y => exact absurd rfl (hV k β y)
      | e y => simp [strip, look]
      | tup y => simp [strip, look]
    · rw [if_neg hs] at h
      have := ih h
      cases x with
      | gd k β y => simp only [strip]; rw [look_filter, if_neg (fun e => hs e.symm)]; exact this
      | e y => simp only [strip, look]; rw [if_neg hs, look_filter, if_neg (fun e => hs e.symm)]; exact this
      | tup y => simp only [strip, look]; rw [if_neg hs, look_filter, if_neg (fun e => hs e.symm)]; exact this

def plainOp (o : Oper) : Bool := match o.op with | .alloc _ | .box .. | .buildSlice .. | .store .. => false | _ => true

theorem plainOp_birth {P : Program} {A : AF} {o : Oper} (h : plainOp o = true) : absBirth P A o = none := by
  unfold absBirth; unfold plainOp at h
  split
  · rfl
  · split <;> simp_all
theorem plainOp_store {P : Program} {hp : List AObj} {A : AF} {o : Oper} (h : plainOp o = true) : absStore P hp A o = none := by
  unfold absStore; unfold plainOp at h
  split
  · rfl
  · split <;> simp_all

section
variable {P : Program} {Γ : Ctx}

theorem absSeq_keep {ops : Array Oper} : ∀ (l : List Oper) (hp : List AObj) (A : AF) {hp' : List AObj} {A' : AF}, (∀ o ∈ l, plainOp o = true) → absSeq P Γ ops l hp A = some (hp', A') →
    hp' = hp ∧ ∀ t, t ∉ l.filterMap (·.dst) → look A' t = look A t
  | [], hp, A, hp', A', _, h => by cases h; exact ⟨rfl, fun _ _ => rfl⟩
  | o :: l, hp, A, hp', A', hpl, h => by
    have ho := hpl o (by simp)
    have hl : ∀ o ∈ l, plainOp o = true := fun p hp => hpl p (by simp [hp])
    simp only [absSeq, plainOp_birth ho, plainOp_store ho] at h
    split at h
    · rename_i e _; cases e
    · rename_i e _; cases e
    · rename_i hd
      split at h
      · obtain ⟨h1, h2⟩ := absSeq_keep l hp A hl h
        exact ⟨h1, fun t ht => h2 t (by simpa [List.filterMap_cons, hd] using ht)⟩
      · cases h
    · rename_i d _ hd
      split at h
      · split at h
        · obtain ⟨h1, h2⟩ := absSeq_keep l hp _ hl h
          refine ⟨h1, fun t ht => ?_⟩
          simp only [List.filterMap_cons, hd, List.mem_cons, not_or] at ht
          rw [h2 t ht.2, look_aset, if_neg ht.1]
        · cases h
      · cases h

theorem scan_keep {ops : Array Oper} : ∀ (l : List Oper) (hp : List AObj) (st : Bool) (A : AF) {is : List Info} {H : List AObj} {A' : AF}, (∀ o ∈ l, plainOp o = true) → scan P Γ ops l hp st A = some (is, H, A') →
    H = hp ∧ stores is = [] ∧ ∀ t, t ∉ l.filterMap (·.dst) → look A' t = look A t
  | [], hp, st, A, is, H, A', _, h => by cases h; exact ⟨rfl, rfl, fun _ _ => rfl⟩
  | o :: l, hp, st, A, is, H, A', hpl, h => by
    have ho := hpl o (by simp)
    have hl : ∀ o ∈ l, plainOp o = true := fun p hp => hpl p (by simp [hp])
    have step : ∀ (V : AV) (f : Bool) (A2 : AF), (∀ t, t ∉ (o :: l).filterMap (·.dst) → look A2 t = look A t) → consI (.look V f) (scan P Γ ops l hp st A2) = some (is, H, A') → H = hp ∧ stores is = [] ∧ ∀ t, t ∉ (o :: l).filterMap (·.dst) → look A' t = look A t := by
      intro V f A2 hA h
      obtain ⟨is', rfl, h'⟩ := consI_some h
      obtain ⟨h1, h2, h3⟩ := scan_keep l hp st A2 hl h'
      refine ⟨h1, by simpa [stores] using h2, fun t ht => ?_⟩
      rw [h3 t (fun hc => ht (by simp only [List.filterMap_cons]; split; exact hc; exact List.mem_cons_of_mem _ hc)), hA t ht]
    simp only [scan, plainOp_birth ho, plainOp_store ho] at h
    split at h
    · rename_i e _; cases e
    · rename_i e _; cases e
    · rename_i hd
      split at h
      · exact step _ _ A (fun _ _ => rfl) h
      · split at h
        · exact step _ _ A (fun _ _ => rfl) h
        · cases h
    · rename_i d _ hd
      have hA : ∀ V, ∀ t, t ∉ (o :: l).filterMap (·.dst) → look (aset A d V) t = look A t := fun V t ht => by
        simp only [List.filterMap_cons, hd, List.mem_cons, not_or] at ht
        rw [look_aset, if_neg ht.1]
      split at h
      · split at h
        · exact step _ _ _ (hA _) h
        · split at h
          · exact step _ _ _ (hA _) h
          · cases h
      · cases h

theorem look_joinAF {β : Bool} {W : List Nat} {A1 A2 : AF} {t : Nat} (ht : t ∉ W) : ∀ {l : AF}, look (joinAF β W l A1 A2) t = look l t
  | [] => rfl
  | (s, x) :: r => by
    have ih := look_joinAF (β := β) (A1 := A1) (A2 := A2) ht (l := r)
    simp only [joinAF]
    split
    · rename_i hs
      have hne : s ≠ t := fun e => ht (e ▸ hs)
      have e0 : look ((s, x) :: r) t = look r t := by simp [look, hne]
      rw [e0]
      split
      · split
        · simp only [look]; rw [if_neg hne]; exact ih
        · exact ih
      · exact ih
    · simp only [look, ih]

theorem look_joinAF_in {β : Bool} {W : List Nat} {A1 A2 : AF} {t : Nat} {V : AV} (ht : t ∈ W) : ∀ {l : AF}, look (joinAF β W l A1 A2) t = some V → ∃ y z m, look A1 t = some (.e y) ∧ look A2 t = some (.e z) ∧ mergeAE β y z = some m ∧ V = .e m
  | [], h => by cases h
  | (s, x) :: r, h => by
    simp only [joinAF] at h
    split at h
    · split at h
      · rename_i y z e1 e2
        split at h
        · rename_i m em
          simp only [look] at h
          split at h
          · rename_i e; subst e; cases h; exact ⟨y, z, m, e1, e2, em, rfl⟩
          · exact look_joinAF_in ht h
        · exact look_joinAF_in ht h
      · exact look_joinAF_in ht h
    · rename_i hs
      simp only [look] at h
      split at h
      · rename_i e; subst e; exact absurd ht hs
      · exact look_joinAF_in ht h

theorem Tree.all_then {Φ Ψ : Out → List AObj → AF → Prop} {k : List AObj → AF → Tree} (hn : ∀ hp A, Φ .normal hp A → (k hp A).All Ψ) (hr : ∀ e hp A, e ≠ .normal → Φ e hp A → Ψ e hp A) : ∀ {t : Tree}, t.All Φ → (t.then k).All Ψ
  | .bad, _ => trivial
  | .leaf .normal hp A, h => hn hp A h
  | .leaf .ret hp A, h => hr _ _ _ (by simp) h
  | .leaf (.exit id) hp A, h => hr _ _ _ (by simp) h
  | .br β t e, h => ⟨Tree.all_then hn hr h.1, Tree.all_then hn hr h.2⟩

theorem Tree.All.mono {Φ Ψ : Out → List AObj → AF → Prop} (h : ∀ e hp A, Φ e hp A → Ψ e hp A) : ∀ {t : Tree}, t.All Φ → t.All Ψ
  | .bad, _ => trivial
  | .leaf _ _ _, hs => h _ _ _ hs
  | .br _ _ _, hs => ⟨Tree.All.mono h hs.1, Tree.All.mono h hs.2⟩

theorem Keep.refl (W : List Nat) (hp : List AObj) (A : AF) : Keep W hp A hp A := ⟨rfl, fun _ _ _ h _ => h⟩
theorem Keep.weaken {W W' : List Nat} {hp hp1 : List AObj} {A A1 : AF} (h : Keep W hp A hp1 A1) (hW : ∀ t, t ∈ W → t ∈ W') : Keep W' hp A hp1 A1 := ⟨h.1, fun t ht => h.2 t (fun x => ht (hW t x))⟩

theorem execC_keep {N L : Nat} : ∀ (c : Code) (hp : List AObj) (A : AF), plainCode c = true → (execC P Γ N L c hp A).All fun e hp1 A1 => e = .normal → Keep (writes c) hp A hp1 A1
  | .skip, hp, A, _ => fun _ => Keep.refl _ _ _
  | .region id ops draw, hp, A, h => by
    have hpl : ∀ o ∈ ops.toList, plainOp o = true := fun o ho => by
      simp only [plainCode] at h
      have := (Array.all_eq_true_iff_forall_mem.1 h) o (by simpa using ho)
      unfold plainOp; exact this
    simp only [execC]
    split
    · split
      · rename_i is H0 A' e
        split
        · obtain ⟨h1, h2, h3⟩ := scan_keep ops.toList hp false _ hpl e
          refine fun _ => ⟨by rw [h2]; exact h1, fun t ht V hV hg => ?_⟩
          rw [h3 t ht]; exact look_strip' hV hg
        · trivial
      · trivial
    · split
      · rename_i hp' A' e
        split
        · obtain ⟨h1, h2⟩ := absSeq_keep ops.toList hp _ hpl e
          refine fun _ => ⟨h1, fun t ht V hV hg => ?_⟩
          rw [h2 t ht]; exact look_strip' hV hg
        · trivial
      · trivial
  | .seq x y, hp, A, h => by
    simp only [plainCode, Bool.and_eq_true] at h
    simp only [execC]
    refine Tree.all_then (Φ := fun e hp1 A1 => e = .normal → Keep (writes x) hp A hp1 A1) (fun hp1 A1 h1 => ?_) (fun e hp1 A1 hne _ he => absurd he hne) (execC_keep x hp A h.1)
    have h1 := h1 rfl
    refine (execC_keep y hp1 A1 h.2).mono fun e hp2 A2 h2 he => ?_
    have h2 := h2 he
    refine ⟨h2.1.trans h1.1, fun t ht V hV hg => ?_⟩
    simp only [writes, List.mem_append, not_or] at ht
    exact h2.2 t ht.2 V (h1.2 t ht.1 V hV hg) hg
  | .cond c x y, hp, A, h => by
    simp only [plainCode, Bool.and_eq_true] at h
    have hx := (execC_keep (N := N) (L := L) x hp A h.1).mono fun e hp1 A1 h he => (h he).weaken (W' := writes x ++ writes y) fun t ht => List.mem_append.2 (.inl ht)
    have hy := (execC_keep (N := N) (L := L) y hp A h.2).mono fun e hp1 A1 h he => (h he).weaken (W' := writes x ++ writes y) fun t ht => List.mem_append.2 (.inr ht)
    simp only [execC]
    split
    · split
      · exact hx
      · exact hy
    · unfold joinT
      split
      · split
        · refine fun _ => ⟨rfl, fun t ht V hV hg => ?_⟩
          rw [look_joinAF (by simpa only [writes] using ht)]; exact look_strip' hV hg
        · exact ⟨hx, hy⟩
      · exact ⟨hx, hy⟩
    · trivial
  | .block .., _, _, h => by cases h
  | .loop _, _, _, h => by cases h
  | .rangeFunc .., _, _, h => by cases h
  | .exit _, _, _, h => by cases h
  | .scope _, _, _, h => by cases h
  | .label _, _, _, h => by cases h
  | .goto _, _, _, h => by cases h
  | .ret, _, _, h => by cases h
  | .refuse _, _, _, h => by cases h
end

end Go.Proofs.Ytkmijohkblmajaa
