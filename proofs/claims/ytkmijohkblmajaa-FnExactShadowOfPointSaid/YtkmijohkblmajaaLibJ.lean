/- A region that draws its order, by one abstract walk of its text; births and one store included. -/
import Derived.Test.YtkmijohkblmajaaLibI
namespace Go.Proofs.Ytkmijohkblmajaa
open Go Go.RowKit

inductive Info where
  | look (V : AV) (free : Bool)
  | birth (cells : List AS) (sl : Option Nat) (id : Nat)
  | store (id : Nat) (cells : List AS)

def Info.V : Info → AV
  | .look V _ => V
  | .birth _ sl id => .e (birthAE id sl)
  | .store _ _ => .tup []

def nextA (A : AF) (o : Oper) (inf : Info) : AF := match o.dst with
  | some d => aset A d inf.V
  | none => A

def consI (inf : Info) : Option (List Info × List AObj × AF) → Option (List Info × List AObj × AF)
  | some (is, H, A) => some (inf :: is, H, A)
  | none => none

def scan (P : Program) (Γ : Ctx) (ops : Array Oper) : List Oper → List AObj → Bool → AF → Option (List Info × List AObj × AF)
  | [], hp, _, A => some ([], hp, A)
  | o :: r, hp, st, A =>
    match absBirth P A o, o.dst with
    | some (cells, sl), some d => if st = false ∧ okDst ops A o d = true then consI (.birth cells sl hp.length) (scan P Γ ops r (hp ++ [⟨true, cells⟩]) st (aset A d (.e (birthAE hp.length sl)))) else none
    | some _, none => none
    | none, none => match st, absStore P hp A o with
      | false, some (id, cells) => consI (.store id cells) (scan P Γ ops r hp true A)
      | _, _ => match absOp P Γ [] ops A o with
        | some V => consI (.look V true) (scan P Γ ops r hp st A)
        | none => match st, absOp P Γ hp ops A o with
          | false, some V => consI (.look V false) (scan P Γ ops r hp st A)
          | _, _ => none
    | none, some d => if okDst ops A o d = true then
        match absOp P Γ [] ops A o with
        | some V => consI (.look V true) (scan P Γ ops r hp st (aset A d V))
        | none => match st, absOp P Γ hp ops A o with
          | false, some V => consI (.look V false) (scan P Γ ops r hp st (aset A d V))
          | _, _ => none
      else none

section
variable {P : Program} {Γ : Ctx} {ops : Array Oper}

def OKop (P : Program) (Γ : Ctx) (ops : Array Oper) (H : List AObj) (n0 : Nat) (o : Oper) (A : AF) : Info → Prop
  | .look V free => absOp P Γ H ops A o = some V ∧ (free = true → absOp P Γ [] ops A o = some V) ∧ (∀ d, o.dst = some d → okDst ops A o d = true)
  | .birth cells sl id => absBirth P A o = some (cells, sl) ∧ H[id]? = some ⟨true, cells⟩ ∧ n0 ≤ id ∧ ∃ d, o.dst = some d ∧ okDst ops A o d = true
  | .store id cells => absStore P H A o = some (id, cells) ∧ o.dst = none

inductive Scan (P : Program) (Γ : Ctx) (ops : Array Oper) (H : List AObj) (n0 : Nat) : List Oper → AF → List Info → AF → Prop
  | nil {A} : Scan P Γ ops H n0 [] A [] A
  | cons {o r A inf infs A'} : OKop P Γ ops H n0 o A inf → Scan P Γ ops H n0 r (nextA A o inf) infs A' → Scan P Γ ops H n0 (o :: r) A (inf :: infs) A'

def birthIds : List Info → List Nat
  | [] => []
  | .birth _ _ id :: r => id :: birthIds r
  | _ :: r => birthIds r

def stores : List Info → List (Nat × List AS)
  | [] => []
  | .store id cells :: r => (id, cells) :: stores r
  | _ :: r => stores r

theorem absStore_mono {hp more : List AObj} {A : AF} {o : Oper} {r : Nat × List AS} (h : absStore P hp A o = some r) : absStore P (hp ++ more) A o = some r := by
  unfold absStore at h ⊢
  split at h
  · cases h
  · split at h
    · split at h
      · rename_i id off y e1 e2
        split at h
        · rename_i cells n e3 e4
          rw [get_append e3]
          simp only [e4]
          exact h
        · cases h
      · cases h
    · cases h

theorem consI_some {inf : Info} {x : Option (List Info × List AObj × AF)} {is : List Info} {H : List AObj} {A : AF} (h : consI inf x = some (is, H, A)) : ∃ is', is = inf :: is' ∧ x = some (is', H, A) := by
  unfold consI at h
  split at h
  · cases h; exact ⟨_, rfl, rfl⟩
  · cases h

theorem scan_spec : ∀ (l : List Oper) (hp : List AObj) (st : Bool) (A : AF) {is : List Info} {H : List AObj} {A' : AF}, scan P Γ ops l hp st A = some (is, H, A') →
    (∃ more, H = hp ++ more) ∧ (∀ n0, n0 ≤ hp.length → Scan P Γ ops H n0 l A is A') ∧ (∀ id ∈ birthIds is, hp.length ≤ id) ∧ (birthIds is).Nodup ∧ (if st then stores is = [] else (stores is).length ≤ 1) ∧ is.length = l.length ∧
    (st = true → ∀ (i : Nat) (V : AV), is[i]? = some (Info.look V false) → False) ∧
    (∀ (i j id : Nat) (cells : List AS) (V : AV), is[i]? = some (Info.store id cells) → i < j → is[j]? = some (Info.look V false) → False)
  | [], hp, st, A, is, H, A', h => by
    cases h
    exact ⟨⟨[], by simp⟩, fun _ _ => .nil, (fun _ h => by cases h), List.nodup_nil, (by cases st <;> simp [stores]), rfl, (fun _ i V h => by simp at h), (fun i j id cells V h => by simp at h)⟩
  | o :: l, hp, st, A, is, H, A', h => by
    have look : ∀ (V : AV) (free : Bool) (A2 : AF), consI (.look V free) (scan P Γ ops l hp st A2) = some (is, H, A') → A2 = nextA A o (.look V free) → (∀ more, absOp P Γ (hp ++ more) ops A o = some V) → (free = true → absOp P Γ [] ops A o = some V) → (∀ d, o.dst = some d → okDst ops A o d = true) → (st = true → free = true) →
        (∃ more, H = hp ++ more) ∧ (∀ n0, n0 ≤ hp.length → Scan P Γ ops H n0 (o :: l) A is A') ∧ (∀ id ∈ birthIds is, hp.length ≤ id) ∧ (birthIds is).Nodup ∧ (if st then stores is = [] else (stores is).length ≤ 1) ∧ is.length = (o :: l).length ∧
        (st = true → ∀ (i : Nat) (V : AV), is[i]? = some (Info.look V false) → False) ∧ (∀ (i j id : Nat) (cells : List AS) (V : AV), is[i]? = some (Info.store id cells) → i < j → is[j]? = some (Info.look V false) → False) := by
      intro V free A2 h hA h1 h2 h3 h4
      obtain ⟨is', rfl, h'⟩ := consI_some h
      obtain ⟨⟨more, hm⟩, g2, g3, g4, g5, g6, g7, g8⟩ := scan_spec l hp st A2 h'
      refine ⟨⟨more, hm⟩, fun n0 hn => .cons ⟨by rw [hm]; exact h1 more, h2, h3⟩ (by rw [← hA]; exact g2 n0 hn), g3, g4, g5, by simp [g6], fun hst i V' hi => ?_, fun i j id cells V' hi hij hj => ?_⟩
      · cases i with
        | zero => simp at hi; rw [h4 hst] at hi; exact absurd hi.2 (by simp)
        | succ i => exact g7 hst i V' (by simpa using hi)
      · cases i with
        | zero => simp at hi
        | succ i => cases j with
          | zero => omega
          | succ j => exact g8 i j id cells V' (by simpa using hi) (by omega) (by simpa using hj)
    have free : ∀ V, absOp P Γ [] ops A o = some V → ∀ more, absOp P Γ (hp ++ more) ops A o = some V := fun V h more => by
      have := absOp_mono (more := hp ++ more) h; simpa using this
    simp only [scan] at h
    split at h
    · rename_i cells sl d eb ed
      split at h
      · rename_i hc
        obtain ⟨hst, hok⟩ := hc
        subst hst
        obtain ⟨is', rfl, h'⟩ := consI_some h
        obtain ⟨⟨more, hm⟩, g2, g3, g4, g5, g6, g7, g8⟩ := scan_spec l _ _ _ h'
        refine ⟨⟨[⟨true, cells⟩] ++ more, by rw [hm]; simp⟩, fun n0 hn => .cons ⟨eb, by rw [hm]; simp, hn, d, ed, hok⟩ ?_, ?_, ?_, by simpa [stores] using g5, by simp [g6], (fun hst => by cases hst), fun i j id cells' V' hi hij hj => ?_⟩
        · have := g2 n0 (by simp; omega)
          unfold nextA
          rw [ed]
          exact this
        · intro id hid
          simp only [birthIds, List.mem_cons] at hid
          rcases hid with rfl | hid
          · exact Nat.le_refl _
          · have := g3 id hid; simp at this; omega
        · simp only [birthIds, List.nodup_cons]
          exact ⟨fun hc => by have := g3 _ hc; simp at this; omega, g4⟩
        · cases i with
          | zero => simp at hi
          | succ i => cases j with
            | zero => omega
            | succ j => exact g8 i j id cells' V' (by simpa using hi) (by omega) (by simpa using hj)
      · cases h
    · cases h
    · rename_i eb ed
      split at h
      · rename_i id cells es
        obtain ⟨is', rfl, h'⟩ := consI_some h
        obtain ⟨⟨more, hm⟩, g2, g3, g4, g5, g6, g7, g8⟩ := scan_spec l _ _ _ h'
        simp only [if_true] at g5
        refine ⟨⟨more, hm⟩, fun n0 hn => .cons ⟨by rw [hm]; exact absStore_mono es, ed⟩ ?_, g3, g4, by simp [stores, g5], by simp [g6], (fun hst => by cases hst), fun i j id' cells' V' hi hij hj => ?_⟩
        · have := g2 n0 hn
          unfold nextA; rw [ed]; exact this
        · cases j with
          | zero => omega
          | succ j => exact g7 rfl j V' (by simpa using hj)
      · split at h
        · rename_i V ef
          exact look V true A h (by unfold nextA; rw [ed]) (free V ef) (fun _ => ef) (fun d hd => by rw [ed] at hd; cases hd) (fun _ => rfl)
        · split at h
          · rename_i V ev _
            exact look V false A h (by unfold nextA; rw [ed]) (fun more => absOp_mono ev) (fun hc => by cases hc) (fun d hd => by rw [ed] at hd; cases hd) (fun hc => by cases hc)
          · cases h
    · rename_i d eb ed
      split at h
      · rename_i hok
        have hokd : ∀ d', o.dst = some d' → okDst ops A o d' = true := fun d' hd' => by rw [ed] at hd'; cases hd'; exact hok
        split at h
        · rename_i V ef
          exact look V true _ h (by unfold nextA; rw [ed]; rfl) (free V ef) (fun _ => ef) hokd (fun _ => rfl)
        · split at h
          · rename_i V ev
            exact look V false _ h (by unfold nextA; rw [ed]; rfl) (fun more => absOp_mono ev) (fun hc => by cases hc) hokd (fun hc => by cases hc)
          · cases h
      · cases h

/-- The abstract frame ahead of operation i. -/
def AFs (ops : Array Oper) (is : List Info) (A0 : AF) : Nat → AF
  | 0 => A0
  | i + 1 => match ops[i]?, is[i]? with
    | some o, some inf => nextA (AFs ops is A0 i) o inf
    | _, _ => AFs ops is A0 i

theorem nextA_wf {H : List AObj} {n0 : Nat} {o : Oper} {A : AF} {inf : Info} (hwf : WF ops A) (h : OKop P Γ ops H n0 o A inf) : WF ops (nextA A o inf) := by
  unfold nextA
  split
  · rename_i d hd
    cases inf with
    | look V free =>
      obtain ⟨h1, _, h3⟩ := h
      have hok := okDst_spec (h3 d hd)
      refine hwf.aset hok.1 fun k β x e => ?_
      simp only [Info.V] at e
      subst e
      obtain ⟨hg, par, hgc⟩ := absOp_gd h1
      exact ⟨hok.2 k hg, par, hgc⟩
    | birth cells sl id =>
      obtain ⟨_, _, _, d', hd', hok⟩ := h
      rw [hd] at hd'; cases hd'
      exact hwf.aset (okDst_spec hok).1 fun k β x e => by simp [Info.V] at e
    | store id cells => rw [h.2] at hd; cases hd
  · exact hwf

theorem Scan.at_ {H : List AObj} {n0 : Nat} {A0 : AF} {is : List Info} : ∀ (l : List Oper) (k : Nat) {js : List Info} {A' : AF}, Scan P Γ ops H n0 l (AFs ops is A0 k) js A' → (∀ j, l[j]? = ops[k + j]?) → (∀ j, js[j]? = is[k + j]?) → WF ops (AFs ops is A0 k) →
    (∀ i o, k ≤ i → ops[i]? = some o → ∃ inf, is[i]? = some inf ∧ OKop P Γ ops H n0 o (AFs ops is A0 i) inf ∧ WF ops (AFs ops is A0 i)) ∧ A' = AFs ops is A0 (k + l.length)
  | [], k, js, A', h, hl, hj, hwf => by
    cases h
    refine ⟨fun i o hi ho => ?_, rfl⟩
    have := hl (i - k); rw [show k + (i - k) = i by omega, ho] at this; cases this
  | o :: l, k, js, A', h, hl, hj, hwf => by
    cases h with
    | cons hok hrest =>
      rename_i inf infs
      have h0 : ops[k]? = some o := by simpa using (hl 0).symm
      have j0 : is[k]? = some inf := by simpa using (hj 0).symm
      have e : AFs ops is A0 (k + 1) = nextA (AFs ops is A0 k) o inf := by simp only [AFs, h0, j0]
      obtain ⟨g1, g2⟩ := Scan.at_ l (k + 1) (by rw [e]; exact hrest) (fun j => by have := hl (j + 1); simpa [Nat.add_assoc, Nat.add_comm 1 j] using this) (fun j => by have := hj (j + 1); simpa [Nat.add_assoc, Nat.add_comm 1 j] using this) (by rw [e]; exact nextA_wf hwf hok)
      refine ⟨fun i oi hi hoi => ?_, by rw [g2]; congr 1; simp; omega⟩
      by_cases hik : i = k
      · subst hik; rw [h0] at hoi; cases hoi; exact ⟨inf, j0, hok, hwf⟩
      · exact g1 i oi (by omega) hoi

theorem AFs_spec {is : List Info} {A0 : AF} (hlen : is.length = ops.size) (t : Nat) (V : AV) : ∀ i, i ≤ ops.size → look (AFs ops is A0 i) t = some V →
    (∃ j o inf, j < i ∧ ops[j]? = some o ∧ is[j]? = some inf ∧ o.dst = some t ∧ inf.V = V) ∨ ((∀ j o, j < i → ops[j]? = some o → o.dst ≠ some t) ∧ look A0 t = some V)
  | 0, _, h => .inr ⟨fun j o hj => by omega, h⟩
  | i + 1, hi, h => by
    have hi1 : i < ops.size := by omega
    have hi2 : i < is.length := by omega
    have ho : ops[i]? = some ops[i] := by simp [hi1]
    have hs : is[i]? = some is[i] := by simp [hi2]
    simp only [AFs, ho, hs] at h
    unfold nextA at h
    have ih := AFs_spec (A0 := A0) hlen t V i (by omega)
    split at h
    · rename_i d hd
      rw [look_aset] at h
      split at h
      · rename_i e; subst e; cases h
        exact .inl ⟨i, _, _, by omega, ho, hs, hd, rfl⟩
      · rename_i e
        rcases ih h with ⟨j, o, inf, h1, h2⟩ | ⟨h1, h2⟩
        · exact .inl ⟨j, o, inf, by omega, h2⟩
        · refine .inr ⟨fun j o hj hjo => ?_, h2⟩
          by_cases hji : j = i
          · subst hji; rw [ho] at hjo; cases hjo; rw [hd]; exact fun hc => e (by cases hc; rfl)
          · exact h1 j o (by omega) hjo
    · rename_i hd
      rcases ih h with ⟨j, o, inf, h1, h2⟩ | ⟨h1, h2⟩
      · exact .inl ⟨j, o, inf, by omega, h2⟩
      · refine .inr ⟨fun j o hj hjo => ?_, h2⟩
        by_cases hji : j = i
        · subst hji; rw [ho] at hjo; cases hjo; rw [hd]; exact fun hc => by cases hc
        · exact h1 j o (by omega) hjo

/-- The store comes behind all that looks into memory. -/
def ordOK (ops : Array Oper) (is : List Info) : Bool :=
  is.zipIdx.all fun (inf, i) => match inf with
    | .store _ _ => (is.take i).zipIdx.all fun (jnf, j) => match jnf with
      | .look _ false => match ops[i]? with | some o => edgeTo o j | none => false
      | _ => true
    | _ => true

theorem ordOK_spec {is : List Info} (h : ordOK ops is = true) {i j : Nat} {id : Nat} {cells : List AS} {V : AV} {o : Oper} (hi : is[i]? = some (.store id cells)) (hj : is[j]? = some (.look V false)) (hji : j < i) (ho : ops[i]? = some o) : edgeTo o j = true := by
  have h1 := List.all_eq_true.1 h (.store id cells, i) (by rw [List.mem_zipIdx_iff_getElem?]; exact hi)
  simp only at h1
  have h2 := List.all_eq_true.1 h1 (.look V false, j) (by rw [List.mem_zipIdx_iff_getElem?, List.getElem?_take, if_pos hji]; exact hj)
  simpa [ho] using h2

end

end Go.Proofs.Ytkmijohkblmajaa
