/- The state of a walk; the two rules for a region. -/
import Derived.Test.YtkmijohkblmajaaLibJ
namespace Go.Proofs.Ytkmijohkblmajaa
open Go Go.RowKit

structure St (E : Env) (T : List Nat) (w0 : World) (hp : List AObj) (A : AF) (N : Nat) (a : Act) (w : World) : Prop where
  slots : ∀ t, denF E A t (a.tmps.getD t undef) w
  cw : CW E T w0 hp w
  size : a.tmps.size = N
  defers : a.defers = []

theorem look_filter {A : AF} {t s : Nat} : look (A.filter fun p => p.1 ≠ t) s = if s = t then none else look A s := by
  induction A with
  | nil => simp [look]
  | cons p r ih =>
    obtain ⟨q, x⟩ := p
    by_cases hq : q = t
    · subst hq
      simp only [List.filter_cons, ne_eq, not_true_eq_false, decide_false, Bool.false_eq_true, if_false, ih, look]
      by_cases hs : s = q
      · simp [hs]
      · rw [if_neg hs, if_neg hs, if_neg (fun e => hs e.symm)]
    · simp only [List.filter_cons, ne_eq, hq, not_false_eq_true, decide_true, if_true, look, ih]
      by_cases hs : q = s
      · subst hs; simp [hq]
      · simp [hs]

theorem look_strip {A : AF} {t : Nat} {V : AV} (h : look (strip A) t = some V) : look A t = some V ∧ ∀ k β x, V ≠ .gd k β x := by
  induction A with
  | nil => cases h
  | cons p r ih =>
    obtain ⟨s, x⟩ := p
    have key : look ((strip r).filter fun p => p.1 ≠ s) t = some V → look ((s, x) :: r) t = some V ∧ ∀ k β x, V ≠ .gd k β x := by
      intro h
      rw [look_filter] at h
      split at h
      · cases h
      · rename_i hne
        obtain ⟨h1, h2⟩ := ih h
        exact ⟨by simp only [look]; rw [if_neg (fun e => hne e.symm)]; exact h1, h2⟩
    cases x with
    | gd k β y => exact key h
    | e y =>
      simp only [strip, look] at h
      split at h
      · rename_i hs; cases h; exact ⟨by simp [look, hs], fun _ _ _ e => by cases e⟩
      · exact key h
    | tup y =>
      simp only [strip, look] at h
      split at h
      · rename_i hs; cases h; exact ⟨by simp [look, hs], fun _ _ _ e => by cases e⟩
      · exact key h

theorem strip_wf (ops : Array Oper) (A : AF) : WF ops (strip A) := fun _ k β x h => absurd rfl ((look_strip h).2 k β x)

theorem St.strip {E : Env} {T : List Nat} {w0 : World} {hp : List AObj} {A : AF} {N : Nat} {a : Act} {w : World} (h : St E T w0 hp A N a w) : St E T w0 hp (strip A) N a w :=
  ⟨fun t V hV => h.slots t V (look_strip hV).1, h.cw, h.size, h.defers⟩

theorem HDen.extend {E : Env} {B0 : Nat} {T : List Nat} {h : List AObj} {w : World} (hh : HDen E B0 T h w) (more : List AObj) : HDen E B0 T (h ++ more) w := by
  refine ⟨fun id hx => by have := hh.len id hx; simp; omega, fun id o ho hx => ?_, fun i j o ho hown hx hx' hij => ?_, fun k hk => ?_⟩
  · rw [List.getElem?_append_left (hh.len id hx)] at ho; exact hh.obj id o ho hx
  · rw [List.getElem?_append_left (hh.len i hx)] at ho; exact hh.apart i j o ho hown hx hx' hij
  · obtain ⟨i, o, h1, h2⟩ := hh.M k hk
    exact ⟨i, o, get_append h1, h2⟩

theorem CW.drew {E : Env} {T : List Nat} {w0 : World} {hp : List AObj} {w : World} (h : CW E T w0 hp w) : CW E T w0 hp { w with drawn := w.drawn + 1 } := h.below (drawnOn_below (.inr rfl))

theorem St.drew {E : Env} {T : List Nat} {w0 : World} {hp : List AObj} {A : AF} {N : Nat} {a : Act} {w : World} (h : St E T w0 hp A N a w) : St E T w0 hp A N a { w with drawn := w.drawn + 1 } :=
  ⟨fun t V hV => AV.den_kept (h.slots t V hV) (Env.Le.refl _ _) (Kept.of_below (drawnOn_below (.inr rfl))), h.cw.drew, h.size, h.defers⟩

def applyStores : List (Nat × List AS) → List AObj → List AObj
  | [], H => H
  | (id, c) :: r, H => applyStores r (H.set id ⟨true, c⟩)

theorem stores_nil {is : List Info} (h : stores is = []) : ∀ (i id : Nat) (c : List AS), is[i]? ≠ some (Info.store id c) := by
  induction is with
  | nil => intro i id c hi; simp at hi
  | cons x r ih =>
    intro i id c hi
    cases i with
    | zero => simp at hi; subst hi; simp [stores] at h
    | succ i => cases x <;> simp [stores] at h <;> exact ih h i id c (by simpa using hi)
theorem stores_one {is : List Info} {id : Nat} {c : List AS} (h : stores is = [(id, c)]) : ∃ s : Nat, is[s]? = some (Info.store id c) ∧ ∀ (i id' : Nat) (c' : List AS), is[i]? = some (Info.store id' c') → i = s ∧ id' = id ∧ c' = c := by
  induction is with
  | nil => cases h
  | cons x r ih =>
    have key : stores r = [(id, c)] → (∀ (id' : Nat) (c' : List AS), x ≠ .store id' c') → ∃ s : Nat, (x :: r)[s]? = some (Info.store id c) ∧ ∀ (i id' : Nat) (c' : List AS), (x :: r)[i]? = some (Info.store id' c') → i = s ∧ id' = id ∧ c' = c := by
      intro hr hx
      obtain ⟨s, h1, h2⟩ := ih hr
      refine ⟨s + 1, by simpa using h1, fun i id' c' hi => ?_⟩
      cases i with
      | zero => simp at hi; exact absurd hi (hx _ _)
      | succ i => obtain ⟨e, e2⟩ := h2 i id' c' (by simpa using hi); exact ⟨by omega, e2⟩
    cases x with
    | store id' c' =>
      simp [stores] at h
      obtain ⟨⟨rfl, rfl⟩, hr⟩ := h
      refine ⟨0, by simp, fun i id'' c'' hi => ?_⟩
      cases i with
      | zero => simp at hi; exact ⟨rfl, hi.1.symm, hi.2.symm⟩
      | succ i => exact absurd (by simpa using hi) (stores_nil hr i id'' c'')
    | look V f => exact key h (fun _ _ e => by cases e)
    | birth a b d => exact key h (fun _ _ e => by cases e)

theorem birth_distinct {is : List Info} (h : (birthIds is).Nodup) : ∀ {i j : Nat} {c c' : List AS} {s s' : Option Nat} {id id' : Nat}, is[i]? = some (Info.birth c s id) → is[j]? = some (Info.birth c' s' id') → i ≠ j → id ≠ id' := by
  have mem : ∀ {is : List Info} {i : Nat} {c : List AS} {s : Option Nat} {id : Nat}, is[i]? = some (Info.birth c s id) → id ∈ birthIds is := by
    intro is
    induction is with
    | nil => intro i c s id hi; simp at hi
    | cons x r ih =>
      intro i c s id hi
      cases i with
      | zero => simp at hi; subst hi; simp [birthIds]
      | succ i =>
        have := ih (i := i) (by simpa using hi)
        cases x <;> simp [birthIds, this]
  induction is with
  | nil => intro i j c c' s s' id id' hi; simp at hi
  | cons x r ih =>
    intro i j c c' s s' id id' hi hj hij
    cases i with
    | zero =>
      simp at hi; subst hi
      simp only [birthIds, List.nodup_cons] at h
      cases j with
      | zero => omega
      | succ j => exact fun e => h.1 (by rw [e]; exact mem (by simpa using hj))
    | succ i =>
      cases j with
      | zero =>
        simp at hj; subst hj
        simp only [birthIds, List.nodup_cons] at h
        exact fun e => h.1 (by rw [← e]; exact mem (by simpa using hi))
      | succ j =>
        have hr : (birthIds r).Nodup := by cases x <;> simp [birthIds] at h <;> first | exact h | exact h.2
        exact ih hr (by simpa using hi) (by simpa using hj) (by omega)

section
variable {P : Program} {Γ : Ctx} {ops : Array Oper} {E : Env} {T : List Nat} {w0 : World}

structure InvJ (ops : Array Oper) (E : Env) (T : List Nat) (w0 ws : World) (is : List Info) (A0 : AF) (H : Array Bool → List AObj) (N : Nat) (L : Array Bool) (a : Act) (w : World) : Prop where
  env : ∃ E' : Env, E.Le E' ws ∧ CW E' T w0 (H L) w ∧ (∀ (i : Nat) (c : List AS) (s : Option Nat) (id : Nat), is[i]? = some (Info.birth c s id) → L.getD i false = false → ¬ E'.ex id) ∧
    (∀ (i id : Nat) (c : List AS), is[i]? = some (Info.store id c) → L.getD i false = true → E'.ex id) ∧
    (∀ (i : Nat) (o : Oper) (inf : Info) (t : Tmp), ops[i]? = some o → is[i]? = some inf → L.getD i false = true → o.dst = some t → inf.V.den E' (a.tmps.getD t undef) w) ∧
    (∀ t : Tmp, (∀ (i : Nat) (o : Oper), ops[i]? = some o → L.getD i false = true → o.dst ≠ some t) → denF E' A0 t (a.tmps.getD t undef) w)
  size : ws.heap.size ≤ w.heap.size
  tsize : a.tmps.size = N
  defers : a.defers = []

theorem wp_region_scan (hΓ : Γ.OK P) {hp : List AObj} {A A' : AF} {N id : Nat} {is : List Info} {H0 : List AObj} {Q : Exit → Act → World → Prop} {a : Act} {w : World} (hm : P.follows .mixedOrders = true) (hchk : chkOps ops N = true)
    (hscan : scan P Γ ops ops.toList hp false (strip A) = some (is, H0, A')) (hord : ordOK ops is = true) (hst : St E T w0 hp A N a w)
    (hQ : ∀ E' a' w', E.Le E' w → w.heap.size ≤ w'.heap.size → St E' T w0 (applyStores (stores is) H0) A' N a' w' → Q .normal a' w') : (Code.region id ops true).wp P Q a w := by
  obtain ⟨⟨more, hmore⟩, hsc, hids, hnd, hone, hlen, _, hafterStore⟩ := scan_spec ops.toList hp false (strip A) hscan
  simp only [Array.length_toList, Bool.false_eq_true, if_false] at hlen hone
  obtain ⟨hat, hA'⟩ := Scan.at_ (is := is) (A0 := strip A) ops.toList 0 (hsc hp.length (Nat.le_refl _)) (fun j => by simp) (fun j => by simp) (strip_wf ops A)
  simp only [Nat.zero_add, Array.length_toList] at hA'
  obtain ⟨H, hH0, hHs, hHl, hHend⟩ : ∃ H : Array Bool → List AObj, (∀ L : Array Bool, (∀ (i id : Nat) (c : List AS), is[i]? = some (Info.store id c) → L.getD i false = false) → H L = H0) ∧
      (∀ (L : Array Bool) (i id : Nat) (c : List AS), is[i]? = some (Info.store id c) → L.getD i false = true → H L = H0.set id ⟨true, c⟩) ∧
      (∀ (L L' : Array Bool), (∀ (i id : Nat) (c : List AS), is[i]? = some (Info.store id c) → L.getD i false = L'.getD i false) → H L = H L') ∧
      (∀ L : Array Bool, (∀ i, i < ops.size → L.getD i false = true) → H L = applyStores (stores is) H0) := by
    cases hs : stores is with
    | nil =>
      exact ⟨fun _ => H0, fun _ _ => rfl, fun L i id c hi => absurd hi (stores_nil hs i id c), fun _ _ _ => rfl, fun _ _ => rfl⟩
    | cons p r =>
      obtain ⟨sid, sc⟩ := p
      have hr : r = [] := by rw [hs] at hone; simp at hone; exact hone
      subst hr
      obtain ⟨s, h1, h2⟩ := stores_one hs
      refine ⟨fun L => if L.getD s false = true then H0.set sid ⟨true, sc⟩ else H0, fun L hL => ?_, fun L i id c hi hl => ?_, fun L L' hLL => ?_, fun L hL => ?_⟩
      · simp only; rw [hL s sid sc h1]; simp
      · obtain ⟨rfl, rfl, rfl⟩ := h2 i id c hi; simp only; rw [if_pos hl]
      · simp only; rw [hLL s sid sc h1]
      · have : s < is.length := (List.getElem?_eq_some_iff.1 h1).1
        simp only; rw [hL s (by omega)]; simp [applyStores]
  refine wp_region_inv hm hchk (InvJ ops E T w0 w is (strip A) H N) ?_ ?_ ?_
  · intro L a w1 i o hL hcl ho hil hafter hI
    obtain ⟨⟨E', hle, hC, hnb, hsx, hwr, hrest⟩, hsz, hts, hdf⟩ := hI
    obtain ⟨inf, hinf, hok, hwf⟩ := hat i o (Nat.zero_le _) ho
    have hil' : L.getD i false = false := by
      have : i < L.size := by rw [hL]; exact (Array.getElem?_eq_some_iff.1 ho).1
      simp only [Array.getD_eq_getD_getElem?, this, getElem?_pos, Option.getD_some] at hil ⊢; exact hil
    have hilt : i < L.size := by rw [hL]; exact (Array.getElem?_eq_some_iff.1 ho).1
    have hfacts : ∀ t ∈ o.looksAt ops, denF E' (AFs ops is (strip A) i) t (a.tmps.getD t undef) w1 := by
      intro t ht V hV
      rcases AFs_spec hlen t V i (Nat.le_of_lt (Array.getElem?_eq_some_iff.1 ho).1) hV with ⟨j, p, jnf, hj, hp, hjnf, hd, rfl⟩ | ⟨hno, hV0⟩
      · have h1 := (chk_pair hchk ho hp hd).2 ht
        rw [if_pos hj] at h1
        obtain ⟨ed, hed, hb, rfl⟩ := edgeTo_spec h1
        exact hwr _ p jnf t hp hjnf (hafter ed hed hb) hd
      · refine hrest t (fun k p hp hk hd => ?_) V hV0
        have h1 := (chk_pair hchk ho hp hd).2 ht
        split at h1
        · rename_i hlt; exact hno k p hlt hp hd
        · rcases h1 with rfl | h1
          · rw [hil'] at hk; cases hk
          · obtain ⟨ed, hed, hb, rfl⟩ := edgeTo_spec h1
            rw [hcl k p hp hk ed hed hb] at hil'; cases hil'
    -- what stands behind the operation
    have next : ∀ (E'' : Env) (u : Value) (w2 : World), E'.Le E'' w1 → w1.heap.size ≤ w2.heap.size → Kept E'.M w1 w2 → CW E'' T w0 (H (L.setIfInBounds i true)) w2 →
        (∀ (j : Nat) (c : List AS) (s : Option Nat) (id : Nat), j ≠ i → is[j]? = some (Info.birth c s id) → L.getD j false = false → ¬ E''.ex id) → (∀ (id : Nat) (c : List AS), inf = .store id c → E''.ex id) → (∀ t, o.dst = some t → inf.V.den E'' u w2) →
        InvJ ops E T w0 w is (strip A) H N (L.setIfInBounds i true) (a.put o.dst u) w2 := by
      intro E'' u w2 hle' hsz' hkept hC' hnb' hst' hV
      refine ⟨⟨E'', hle.trans hle' hsz, hC', ?_, ?_, ?_, ?_⟩, Nat.le_trans hsz hsz', by rw [put_size]; exact hts, by rw [put_defers]; exact hdf⟩
      · intro j c s id hj hl
        rw [getD_set_bool _ _ _ _ hilt] at hl
        split at hl
        · cases hl
        · rename_i hji; exact hnb' j c s id (fun e => hji e.symm) hj hl
      · intro j id c hj hl
        rw [getD_set_bool _ _ _ _ hilt] at hl
        split at hl
        · rename_i hji; subst hji; rw [hinf] at hj; cases hj; exact hst' id c rfl
        · exact hle'.ex _ (hsx j id c hj hl)
      · intro j p jnf t hp hjnf hl hd
        rw [getD_set_bool _ _ _ _ hilt] at hl
        split at hl
        · rename_i hji; subst hji
          rw [ho] at hp; cases hp; rw [hinf] at hjnf; cases hjnf
          rw [put_tmps_eq hd (by rw [hts]; exact chk_dst hchk ho hd)]; exact hV t hd
        · rename_i hji
          have hne : o.dst ≠ some t := ((chk_pair hchk ho hp hd).1).resolve_left hji
          rw [put_tmps_ne hne]
          exact AV.den_kept (hwr j p jnf t hp hjnf hl hd) hle' hkept
      · intro t ht
        have hne : o.dst ≠ some t := ht i o ho (by rw [getD_set_bool _ _ _ _ hilt]; simp)
        rw [put_tmps_ne hne]
        intro V hV
        refine AV.den_kept (hrest t (fun j p hp hl => ht j p hp ?_) V hV) hle' hkept
        rw [getD_set_bool _ _ _ _ hilt]; split <;> simp [*]
    have hsame : (∀ (id : Nat) (c : List AS), inf ≠ .store id c) → H (L.setIfInBounds i true) = H L := fun hne => hHl _ _ fun j id c hj => by
      rw [getD_set_bool _ _ _ _ hilt]
      split
      · rename_i e; subst e; rw [hinf] at hj; cases hj; exact absurd rfl (hne id c)
      · rfl
    cases inf with
    | look V free =>
      obtain ⟨h1, h2, h3⟩ := hok
      have hV : absOp P Γ (H L) ops (AFs ops is (strip A) i) o = some V := by
        cases free with
        | true => have := absOp_mono (more := H L) (h2 rfl); simpa using this
        | false =>
          rw [hH0 L]
          · exact h1
          · intro s id c hs
            by_cases hsi : s < i
            · exact (hafterStore s i id c V hs hsi hinf).elim
            · have hne : s ≠ i := fun e => by rw [e, hinf] at hs; cases hs
              cases hlS : L.getD s false with
              | false => rfl
              | true =>
                have hslt : s < ops.size := by have := (List.getElem?_eq_some_iff.1 hs).1; omega
                have hos : ops[s]? = some ops[s] := by simp [hslt]
                have := ordOK_spec hord hs hinf (by omega) hos
                obtain ⟨ed, hed, hb, e⟩ := edgeTo_spec this
                have := hcl s _ hos hlS ed hed hb
                rw [e, hil'] at this; cases this
      have hOK := absOp_sound (E := E') (T := T) (w0 := w0) (hp := H L) hΓ hwf (F := denF E' (AFs ops is (strip A) i)) (fun _ _ _ h => h) hV a w1 hC hfacts
      have hgo : ∀ u w2, CW E' T w0 (H L) w2 → GB w1 w2 → V.den E' u w2 → InvJ ops E T w0 w is (strip A) H N (L.setIfInBounds i true) (a.put o.dst u) w2 := fun u w2 hC2 hG hVd =>
        next E' u w2 (Env.Le.refl _ _) hG.size (Kept.of_below hG) (by rw [hsame (fun _ _ e => by cases e)]; exact hC2) (fun j c s id _ hj hl => hnb j c s id hj hl) (fun _ _ e => by cases e) (fun _ _ => hVd)
      refine ⟨fun hw => ?_, fun hw => hgo undef w1 hC (Below.refl _ _) (hOK.2 hw)⟩
      have hr := hOK.1 hw
      generalize (execOp a.eval o).run P w1 = r at *
      cases r with
      | halt x w' => exact hr.elim
      | ok n w' =>
        cases n <;> first
          | exact hr.elim
          | exact hgo _ _ hr.1 hr.2.1 hr.2.2
          | exact Calls.mono hr fun e w'' ⟨u, he, hC', hG', hv⟩ => ⟨u, he, hgo u w'' hC' hG' hv⟩
    | birth cells sl bid =>
      obtain ⟨h1, h2, h3, d, hd, hokd⟩ := hok
      obtain ⟨hg, arr, ty, hrun, hcells⟩ := absBirth_sound hwf h1 hfacts
      have hw : Region.wanted o (yielded ops a.tmps) = true := by simp [Region.wanted, hg]
      refine ⟨fun _ => ?_, fun hc => by rw [hw] at hc; cases hc⟩
      rw [hrun]
      have hnx : ¬ E'.ex bid := hnb i cells sl bid hinf hil'
      have hHL : (H L)[bid]? = some ⟨true, cells⟩ := by
        by_cases hs : ∀ (s id : Nat) (c : List AS), is[s]? = some (Info.store id c) → L.getD s false = false
        · rw [hH0 L hs]; exact h2
        · simp only [Classical.not_forall] at hs
          obtain ⟨s, id, c, hs1, hs2⟩ := hs
          have hs2 : L.getD s false = true := by simpa using hs2
          rw [hHs L s id c hs1 hs2, List.getElem?_set]
          have hne : id ≠ bid := fun e => hnx (by rw [← e]; exact hsx s id c hs1 hs2)
          rw [if_neg hne]; exact h2
      have hal := hC.1.alloc hC.2.size hnx hHL ty hcells
      have hle' := Env.add_le (w := w1) hnx (Nat.le_refl w1.heap.size)
      refine next (E'.add bid w1.heap.size) _ _ hle' (by simp) (Kept.of_below (alloc_below _ _)) ⟨by rw [hsame (fun _ _ e => by cases e)]; exact hal, hC.2.below (alloc_below _ _)⟩ ?_ (fun _ _ e => by cases e) (fun t _ => ?_)
      · intro j c s id hji hj hl hx
        rcases hx with hx | hx
        · exact hnb j c s id hj hl hx
        · exact birth_distinct hnd hj hinf hji hx
      · cases sl with
        | none => exact ⟨.inr rfl, by simp [birthVal, Env.add]⟩
        | some len => exact ⟨.inr rfl, len, by simp [birthVal, Env.add]⟩
    | store sid cells =>
      obtain ⟨h1, h2⟩ := hok
      have hHL : H L = H0 := hH0 L fun s id c hs => by
        have : stores is ≠ [] := fun hn => stores_nil hn i sid cells hinf
        cases hss : stores is with
        | nil => exact absurd hss this
        | cons p r =>
          obtain ⟨q, qc⟩ := p
          have hr : r = [] := by rw [hss] at hone; simp at hone; exact hone
          subst hr
          obtain ⟨s0, g1, g2⟩ := stores_one hss
          rw [(g2 s id c hs).1, ← (g2 i sid cells hinf).1]; exact hil'
      rw [hHL] at hC
      obtain ⟨hg, hx, w2, hrun, hC2, hk2⟩ := absStore_sound hwf h1 hC hfacts
      have hw : Region.wanted o (yielded ops a.tmps) = true := by simp [Region.wanted, hg]
      refine ⟨fun _ => ?_, fun hc => by rw [hw] at hc; cases hc⟩
      rw [hrun]
      refine next E' _ _ (Env.Le.refl _ _) hk2.size hk2 ?_ (fun j c s id _ hj hl => hnb j c s id hj hl) (fun id c e => by cases e; exact hx) (fun t ht => by rw [h2] at ht; cases ht)
      rw [hHs _ i sid cells hinf (by rw [getD_set_bool _ _ _ _ hilt]; simp)]
      exact hC2
  · intro L a1 w1 hL hall hI
    obtain ⟨⟨E', hle, hC, hnb, hsx, hwr, hrest⟩, hsz, hts, hdf⟩ := hI
    refine hQ E' a1 w1 hle hsz ⟨fun t V hV => ?_, by rw [← hHend L hall]; exact hC, hts, hdf⟩
    rw [hA'] at hV
    rcases AFs_spec hlen t V _ (Nat.le_refl _) hV with ⟨j, p, jnf, hj, hp, hjnf, hd, rfl⟩ | ⟨hno, hV0⟩
    · exact hwr j p jnf t hp hjnf (hall j hj) hd
    · exact hrest t (fun k p hp _ => hno k p (Array.getElem?_eq_some_iff.1 hp).1 hp) V hV0
  · have hst' := hst.strip.drew
    have hrep : ∀ i : Nat, (Array.replicate ops.size false).getD i false = false := fun i => by
      simp only [Array.getD_eq_getD_getElem?, Array.getElem?_replicate]; split <;> rfl
    refine ⟨⟨E, Env.Le.refl _ _, ?_, ?_, ?_, ?_, ?_⟩, Nat.le_refl _, hst'.size, hst'.defers⟩
    · rw [hH0 _ (fun i id c _ => hrep i), hmore]
      exact ⟨hst'.cw.1.extend more, hst'.cw.2⟩
    · intro i c s id hi _ hx
      have hmem : ∀ {is : List Info} {i : Nat}, is[i]? = some (Info.birth c s id) → id ∈ birthIds is := by
        intro is
        induction is with
        | nil => intro i hi; simp at hi
        | cons x r ih =>
          intro i hi
          cases i with
          | zero => simp at hi; subst hi; simp [birthIds]
          | succ i => have := ih (i := i) (by simpa using hi); cases x <;> simp [birthIds, this]
      have h1 := hids id (hmem hi)
      have h2 := hst.cw.1.len id hx
      omega
    · intro i id c _ hl; rw [hrep] at hl; cases hl
    · intro i o inf t _ _ hl; rw [hrep] at hl; cases hl
    · intro t _; exact hst'.slots t
end

end Go.Proofs.Ytkmijohkblmajaa
