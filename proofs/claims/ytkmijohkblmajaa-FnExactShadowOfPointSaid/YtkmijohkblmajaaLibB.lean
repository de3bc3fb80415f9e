/- A region in whatever order its edges allow, by predicates on its slots: each operation, at whatever state that meets the predicates of the slots it looks at, leaves a value of its own predicate. -/
import Derived.Test.YtkmijohkblmajaaLibA
namespace Go.Proofs.Ytkmijohkblmajaa
open Go Go.RowKit

abbrev VP := Value → World → Prop

/-- What is asked of an operation that was begun in the world w. -/
def RelUpon (P : Program) (C : World → Prop) (G : World → World → Prop) (w : World) (V : VP) : Result Next → Prop
  | .ok (.value u) w' => C w' ∧ G w w' ∧ V u w'
  | .ok .skip w' => C w' ∧ G w w' ∧ V undef w'
  | .ok (.enter f args) w' => Calls P f args w' (fun e w'' => ∃ u, e = .returned u ∧ C w'' ∧ G w w'' ∧ V u w'')
  | _ => False

/-- An operation, at whatever frame and world that meet what is known of the slots it looks at. -/
def OpOK (P : Program) (C : World → Prop) (G : World → World → Prop) (ops : Array Oper) (o : Oper) (F : Nat → VP) (V : VP) : Prop :=
  ∀ (a : Act) (w : World), C w → (∀ t ∈ o.looksAt ops, F t (a.tmps.getD t undef) w) →
    (Region.wanted o (yielded ops a.tmps) = true → RelUpon P C G w V ((execOp a.eval o).run P w)) ∧ (Region.wanted o (yielded ops a.tmps) = false → V undef w)

def Stab (C : World → Prop) (G : World → World → Prop) (V : VP) : Prop := ∀ u w w', V u w → C w → G w w' → C w' → V u w'

def upd (F : Nat → VP) (d : Option Tmp) (V : VP) : Nat → VP := fun s => if d = some s then V else F s

/-- The lexical walk. -/
def wpR (P : Program) (C : World → Prop) (G : World → World → Prop) (ops : Array Oper) (K : (Nat → VP) → Prop) : List Oper → (Nat → VP) → Prop
  | [], F => K F
  | o :: rest, F => ∃ V, Stab C G V ∧ OpOK P C G ops o F V ∧ wpR P C G ops K rest (upd F o.dst V)

def edgeTo (o : Oper) (j : Nat) : Bool := o.after.any fun e => Region.binds .any e && e.on == j

def chkOps (ops : Array Oper) (N : Nat) : Bool :=
  ops.toList.zipIdx.all fun (o, i) =>
    (match o.dst with | some t => decide (t < N) | none => true) &&
    o.after.all (fun e => !Region.binds .any e || decide (e.on < i)) &&
    ops.toList.zipIdx.all fun (p, j) => match p.dst with
      | none => true
      | some t => (i == j || o.dst != some t) && (!(o.looksAt ops).contains t || (if j < i then edgeTo o j else i == j || edgeTo p i))

def FF (ops : Array Oper) (Vs : Nat → VP) (F0 : Nat → VP) : Nat → (Nat → VP)
  | 0 => F0
  | i + 1 => upd (FF ops Vs F0 i) ((ops[i]?).bind (·.dst)) (Vs i)

theorem FF_spec (ops : Array Oper) (Vs : Nat → VP) (F0 : Nat → VP) (t : Nat) : ∀ i,
    (∃ j o, j < i ∧ ops[j]? = some o ∧ o.dst = some t ∧ FF ops Vs F0 i t = Vs j) ∨
    ((∀ j o, j < i → ops[j]? = some o → o.dst ≠ some t) ∧ FF ops Vs F0 i t = F0 t)
  | 0 => .inr ⟨fun j o h => by omega, rfl⟩
  | i + 1 => by
    cases ho : ops[i]? with
    | none =>
      rcases FF_spec ops Vs F0 t i with ⟨j, o, h1, h2, h3, h4⟩ | ⟨h1, h2⟩
      · exact .inl ⟨j, o, by omega, h2, h3, by simpa [FF, upd, ho] using h4⟩
      · refine .inr ⟨fun j o hj hjo => ?_, by simpa [FF, upd, ho] using h2⟩
        by_cases hji : j = i
        · subst hji; rw [ho] at hjo; cases hjo
        · exact h1 j o (by omega) hjo
    | some oi =>
      by_cases hd : oi.dst = some t
      · exact .inl ⟨i, oi, by omega, ho, hd, by simp [FF, upd, ho, hd]⟩
      · rcases FF_spec ops Vs F0 t i with ⟨j, o, h1, h2, h3, h4⟩ | ⟨h1, h2⟩
        · exact .inl ⟨j, o, by omega, h2, h3, by simpa [FF, upd, ho, hd] using h4⟩
        · refine .inr ⟨fun j o hj hjo => ?_, by simpa [FF, upd, ho, hd] using h2⟩
          by_cases hji : j = i
          · subst hji; rw [ho] at hjo; cases hjo; exact hd
          · exact h1 j o (by omega) hjo

section
variable {P : Program} {C : World → Prop} {G : World → World → Prop} {ops : Array Oper}

theorem chk_dst {N : Nat} (h : chkOps ops N = true) {i : Nat} {o : Oper} {t : Tmp} (ho : ops[i]? = some o) (hd : o.dst = some t) : t < N := by
  have h1 := List.all_eq_true.1 h (o, i) (by rw [List.mem_zipIdx_iff_getElem?]; simpa using ho)
  simp only [Bool.and_eq_true, hd, decide_eq_true_eq] at h1
  exact h1.1.1
theorem chk_back {N : Nat} (h : chkOps ops N = true) {i : Nat} {o : Oper} (ho : ops[i]? = some o) {e : Edge} (he : e ∈ o.after) (hb : Region.binds .any e = true) : e.on < i := by
  have h1 := List.all_eq_true.1 h (o, i) (by rw [List.mem_zipIdx_iff_getElem?]; simpa using ho)
  simp only [Bool.and_eq_true] at h1
  have h2 := h1.1.2
  rw [Array.all_eq_true_iff_forall_mem] at h2
  have := h2 e he
  simpa [hb] using this
theorem chk_pair {N : Nat} (h : chkOps ops N = true) {i j : Nat} {o p : Oper} {t : Tmp} (ho : ops[i]? = some o) (hp : ops[j]? = some p) (hd : p.dst = some t) :
    (i = j ∨ o.dst ≠ some t) ∧ (t ∈ o.looksAt ops → if j < i then edgeTo o j = true else i = j ∨ edgeTo p i = true) := by
  have h1 := List.all_eq_true.1 h (o, i) (by rw [List.mem_zipIdx_iff_getElem?]; simpa using ho)
  simp only [Bool.and_eq_true] at h1
  have h2 := List.all_eq_true.1 h1.2 (p, j) (by rw [List.mem_zipIdx_iff_getElem?]; simpa using hp)
  simp only [hd, Bool.and_eq_true, Bool.or_eq_true, beq_iff_eq, bne_iff_ne, Bool.not_eq_true', List.contains_eq_mem, decide_eq_false_iff_not] at h2
  refine ⟨h2.1, fun ht => ?_⟩
  have h3 := h2.2.resolve_left (fun x => x ht)
  split at h3
  · rename_i hlt; rw [if_pos hlt]; exact h3
  · rename_i hlt; rw [if_neg hlt]; simpa using h3

theorem edgeTo_spec {o : Oper} {j : Nat} (h : edgeTo o j = true) : ∃ e ∈ o.after, Region.binds .any e = true ∧ e.on = j := by
  unfold edgeTo at h
  rw [← Array.any_toList, List.any_eq_true] at h
  obtain ⟨e, he, h⟩ := h
  simp only [Bool.and_eq_true, beq_iff_eq] at h
  exact ⟨e, by simpa using he, h.1, h.2⟩

theorem put_tmps_eq {a : Act} {d : Option Tmp} {v : Value} {t : Nat} (h : d = some t) (ht : t < a.tmps.size) : (a.put d v).tmps.getD t undef = v := by
  subst h; simp [Act.put, ht]
theorem put_tmps_ne {a : Act} {d : Option Tmp} {v : Value} {t : Nat} (h : d ≠ some t) : (a.put d v).tmps.getD t undef = a.tmps.getD t undef := by
  cases d with
  | none => rfl
  | some s =>
    have hs : s ≠ t := fun e => h (by rw [e])
    simp only [Act.put, Array.getD_eq_getD_getElem?, Array.getElem?_setIfInBounds]
    rw [if_neg hs]
theorem put_size {a : Act} {d : Option Tmp} {v : Value} : (a.put d v).tmps.size = a.tmps.size := by cases d <;> simp [Act.put]
theorem put_defers {a : Act} {d : Option Tmp} {v : Value} : (a.put d v).defers = a.defers := by cases d <;> simp [Act.put]

structure Good (C : World → Prop) (ops : Array Oper) (Vs F0 : Nat → VP) (ds : List Deferred) (N : Nat) (listed : Array Bool) (a : Act) (w : World) : Prop where
  lsize : listed.size = ops.size
  closed : ∀ i o, ops[i]? = some o → listed.getD i false = true → ∀ e ∈ o.after, Region.binds .any e = true → listed.getD e.on false = true
  world : C w
  written : ∀ i o t, ops[i]? = some o → listed.getD i false = true → o.dst = some t → Vs i (a.tmps.getD t undef) w
  rest : ∀ t, (∀ i o, ops[i]? = some o → listed.getD i false = true → o.dst ≠ some t) → F0 t (a.tmps.getD t undef) w
  defers : a.defers = ds
  tsize : a.tmps.size = N

theorem getD_set_bool (l : Array Bool) (i j : Nat) (d : Bool) (hi : i < l.size) : (l.setIfInBounds i true).getD j d = if i = j then true else l.getD j d := by
  simp only [Array.getD_eq_getD_getElem?, Array.getElem?_setIfInBounds]
  split
  · rename_i h; subst h; simp
  · rfl

theorem Good.step {Vs F0 : Nat → VP} {ds : List Deferred} {N : Nat} {listed : Array Bool} {a : Act} {w : World} (hchk : chkOps ops N = true) (hV : ∀ i, Stab C G (Vs i)) (hF : ∀ t, Stab C G (F0 t))
    (h : Good C ops Vs F0 ds N listed a w) {i : Nat} {o : Oper} (ho : ops[i]? = some o) (hafter : ∀ e ∈ o.after, Region.binds .any e = true → listed.getD e.on false = true)
    {u : Value} {w' : World} (hC : C w') (hGw : G w w') (hv : Vs i u w') : Good C ops Vs F0 ds N (listed.setIfInBounds i true) (a.put o.dst u) w' := by
  have hi : i < listed.size := by rw [h.lsize]; exact (Array.getElem?_eq_some_iff.1 ho).1
  refine ⟨by simpa using h.lsize, ?_, hC, ?_, ?_, by rw [put_defers]; exact h.defers, by rw [put_size]; exact h.tsize⟩
  · intro k ok hok hl e he hb
    rw [getD_set_bool _ _ _ _ hi] at hl ⊢
    by_cases hk : i = k
    · subst hk; rw [ho] at hok; cases hok
      split
      · rfl
      · exact hafter e he hb
    · rw [if_neg hk] at hl
      split
      · rfl
      · exact h.closed k ok hok hl e he hb
  · intro k ok t hok hl hd
    rw [getD_set_bool _ _ _ _ hi] at hl
    by_cases hk : i = k
    · subst hk; rw [ho] at hok; cases hok
      rw [put_tmps_eq hd (by rw [h.tsize]; exact chk_dst hchk ho hd)]; exact hv
    · rw [if_neg hk] at hl
      have hne : o.dst ≠ some t := ((chk_pair hchk ho hok hd).1).resolve_left hk
      rw [put_tmps_ne hne]
      exact hV k _ _ _ (h.written k ok t hok hl hd) h.world hGw hC
  · intro t ht
    have hne : o.dst ≠ some t := ht i o ho (by rw [getD_set_bool _ _ _ _ hi]; simp)
    rw [put_tmps_ne hne]
    refine hF t _ _ _ (h.rest t fun k ok hok hl => ht k ok hok ?_) h.world hGw hC
    rw [getD_set_bool _ _ _ _ hi]; split <;> simp [*]

theorem mem_ready_iff {listed : Array Bool} {i : Nat} : i ∈ Region.ready .any ops listed ↔ listed.getD i true = false ∧ ∃ o, ops[i]? = some o ∧ ∀ e ∈ o.after, Region.binds .any e = true → listed.getD e.on false = true := by
  unfold Region.ready
  simp only [List.mem_filter, List.mem_range, Bool.and_eq_true, Bool.not_eq_true']
  constructor
  · rintro ⟨hi, h1, h2⟩
    refine ⟨h1, ?_⟩
    cases ho : ops[i]? with
    | none => rw [ho] at h2; simp at h2
    | some o =>
      rw [ho] at h2
      refine ⟨o, rfl, fun e he hb => ?_⟩
      simp only [Option.map_some, Option.getD_some] at h2
      rw [Array.all_eq_true_iff_forall_mem] at h2
      have := h2 e he
      simpa [hb] using this
  · rintro ⟨h1, o, ho, h2⟩
    refine ⟨(Array.getElem?_eq_some_iff.1 ho).1, h1, ?_⟩
    rw [ho]
    simp only [Option.map_some, Option.getD_some]
    rw [Array.all_eq_true_iff_forall_mem]
    intro e he
    cases hb : Region.binds .any e
    · rfl
    · simpa [hb] using h2 e he hb

theorem Good.all_listed {Vs F0 : Nat → VP} {ds : List Deferred} {N : Nat} {listed : Array Bool} {a : Act} {w : World} (hchk : chkOps ops N = true) (h : Good C ops Vs F0 ds N listed a w)
    (hr : Region.ready .any ops listed = []) : ∀ i, i < ops.size → listed.getD i false = true := by
  intro i
  induction i using Nat.strongRecOn with
  | _ i ih =>
    intro hi
    have ho : ops[i]? = some ops[i] := by simp [hi]
    by_cases hl : listed.getD i false = true
    · exact hl
    · have : i ∈ Region.ready .any ops listed := mem_ready_iff.2 ⟨by
        have hli : i < listed.size := by rw [h.lsize]; exact hi
        simp only [Array.getD_eq_getD_getElem?, hli, getElem?_pos, Option.getD_some] at hl ⊢
        simpa using hl, ops[i], ho, fun e he hb => ih e.on (chk_back hchk ho he hb) (by have := chk_back hchk ho he hb; omega)⟩
      rw [hr] at this; cases this

theorem Good.facts {Vs F0 : Nat → VP} {ds : List Deferred} {N : Nat} {listed : Array Bool} {a : Act} {w : World} (hchk : chkOps ops N = true) (h : Good C ops Vs F0 ds N listed a w)
    {i : Nat} {o : Oper} (ho : ops[i]? = some o) (hl : listed.getD i true = false) (hafter : ∀ e ∈ o.after, Region.binds .any e = true → listed.getD e.on false = true) :
    ∀ t ∈ o.looksAt ops, FF ops Vs F0 i t (a.tmps.getD t undef) w := by
  intro t ht
  rcases FF_spec ops Vs F0 t i with ⟨j, p, hj, hp, hd, e⟩ | ⟨hno, e⟩
  · rw [e]
    have h1 := (chk_pair hchk ho hp hd).2 ht
    rw [if_pos hj] at h1
    obtain ⟨ed, hed, hb, rfl⟩ := edgeTo_spec h1
    exact h.written _ p t hp (hafter ed hed hb) hd
  · rw [e]
    refine h.rest t fun k p hp hk hd => ?_
    have h1 := (chk_pair hchk ho hp hd).2 ht
    have hli : i < listed.size := by rw [h.lsize]; exact (Array.getElem?_eq_some_iff.1 ho).1
    have hl' : listed.getD i false = false := by
      simp only [Array.getD_eq_getD_getElem?, hli, getElem?_pos, Option.getD_some] at hl ⊢; exact hl
    split at h1
    · rename_i hlt; exact hno k p hlt hp hd
    · rcases h1 with rfl | h1
      · rw [hl'] at hk; cases hk
      · obtain ⟨ed, hed, hb, rfl⟩ := edgeTo_spec h1
        rw [h.closed k p hp hk ed hed hb] at hl'; cases hl'

theorem wpAny_rel {Vs F0 : Nat → VP} {ds : List Deferred} {N : Nat} {Q : Exit → Act → World → Prop} (hchk : chkOps ops N = true) (hV : ∀ i, Stab C G (Vs i)) (hF : ∀ t, Stab C G (F0 t)) (hrefl : ∀ w, G w w)
    (hop : ∀ i o, ops[i]? = some o → OpOK P C G ops o (FF ops Vs F0 i) (Vs i))
    (hQ : ∀ a w, C w → a.defers = ds → a.tmps.size = N → (∀ t, FF ops Vs F0 ops.size t (a.tmps.getD t undef) w) → Q .normal a w) :
    ∀ (fuel : Nat) (listed : Array Bool) (a : Act) (w : World), Good C ops Vs F0 ds N listed a w → (listed.toList.filter (!·)).length ≤ fuel → wpAny P .any ops Q fuel listed a w := by
  have hend : ∀ (listed : Array Bool) (a : Act) (w : World), Good C ops Vs F0 ds N listed a w → Region.ready .any ops listed = [] → Q .normal a w := by
    intro listed a w h hr
    have hall := h.all_listed hchk hr
    refine hQ a w h.world h.defers h.tsize fun t => ?_
    rcases FF_spec ops Vs F0 t ops.size with ⟨j, p, hj, hp, hd, e⟩ | ⟨hno, e⟩
    · rw [e]; exact h.written j p t hp (hall j hj) hd
    · rw [e]; exact h.rest t fun k p hp _ => hno k p (Array.getElem?_eq_some_iff.1 hp).1 hp
  intro fuel
  induction fuel with
  | zero =>
    intro listed a w h hf
    have hr : Region.ready .any ops listed = [] := by
      rw [List.eq_nil_iff_forall_not_mem]
      intro i hi
      obtain ⟨h1, o, ho, _⟩ := mem_ready_iff.1 hi
      have hli : i < listed.size := by rw [h.lsize]; exact (Array.getElem?_eq_some_iff.1 ho).1
      have : listed[i] ∈ listed.toList.filter (!·) := by
        rw [List.mem_filter]
        refine ⟨by simp, ?_⟩
        simp only [Array.getD_eq_getD_getElem?, hli, getElem?_pos, Option.getD_some] at h1
        simp [h1]
      have h0 := List.eq_nil_of_length_eq_zero (Nat.le_zero.1 hf)
      rw [h0] at this
      cases this
    exact ⟨hr, hend listed a w h hr⟩
  | succ fuel ih =>
    intro listed a w h hf
    refine ⟨hend listed a w h, fun i hi => ?_⟩
    obtain ⟨h1, o, ho, hafter⟩ := mem_ready_iff.1 hi
    have hli : i < listed.size := by rw [h.lsize]; exact (Array.getElem?_eq_some_iff.1 ho).1
    have hfi : ((listed.setIfInBounds i true).toList.filter (!·)).length ≤ fuel := by
      have hget : listed.toList[i]'(by simpa using hli) = false := by
        simp only [Array.getD_eq_getD_getElem?, hli, getElem?_pos, Option.getD_some] at h1
        simpa using h1
      rw [Array.toList_setIfInBounds]
      have key : ∀ (l : List Bool) (i : Nat) (hi : i < l.length), l[i] = false → ((l.set i true).filter (!·)).length + 1 = (l.filter (!·)).length := by
        intro l
        induction l with
        | nil => intro i hi; cases hi
        | cons x l ihl =>
          intro i hi hx
          cases i with
          | zero => simp only [List.getElem_cons_zero] at hx; subst hx; simp
          | succ i =>
            have := ihl i (by simpa using hi) (by simpa using hx)
            cases x <;> simp_all
      have := key listed.toList i (by simpa using hli) hget
      omega
    have hok := hop i o ho a w h.world (h.facts hchk ho h1 hafter)
    have hstep : ∀ u w', C w' → G w w' → Vs i u w' → wpAny P .any ops Q fuel (listed.setIfInBounds i true) (a.put o.dst u) w' :=
      fun u w' hC' hG' hv => ih _ _ _ (h.step hchk hV hF ho hafter hC' hG' hv) hfi
    unfold wpOp
    simp only [ho]
    cases hw : Region.wanted o (yielded ops a.tmps) with
    | false =>
      simp only [Bool.false_eq_true, if_false]
      exact hstep undef w h.world (hrefl w) (hok.2 hw)
    | true =>
      simp only [if_true]
      refine .inl ?_
      have hr := hok.1 hw
      unfold Oper.wp
      generalize (execOp a.eval o).run P w = r at *
      cases r with
      | halt x w' => exact hr.elim
      | ok n w' =>
        cases n <;> first
          | exact hr.elim
          | exact hstep _ _ hr.1 hr.2.1 hr.2.2
          | exact Calls.mono hr fun e w'' ⟨u, he, hC', hG', hv⟩ => by subst he; exact hstep u w'' hC' hG' hv

/-- From the lexical walk: a predicate for each operation. -/
theorem wpR_split {K : (Nat → VP) → Prop} : ∀ (l : List Oper) (k : Nat) (Vs0 : Nat → VP) (F0 : Nat → VP), (∀ j, l[j]? = ops[k + j]?) → wpR P C G ops K l (FF ops Vs0 F0 k) →
    ∃ Vs : Nat → VP, (∀ i, i < k → Vs i = Vs0 i) ∧ (∀ i o, k ≤ i → ops[i]? = some o → Stab C G (Vs i) ∧ OpOK P C G ops o (FF ops Vs F0 i) (Vs i)) ∧ K (FF ops Vs F0 (k + l.length))
  | [], k, Vs0, F0, hl, h => ⟨Vs0, fun _ _ => rfl, (fun i o hi ho => by
      have h1 := hl (i - k)
      rw [show k + (i - k) = i by omega, ho] at h1
      cases h1), h⟩
  | o :: l, k, Vs0, F0, hl, h => by
    obtain ⟨V, hs, hok, hrest⟩ := h
    have h0 : ops[k]? = some o := by simpa using (hl 0).symm
    have hFF : ∀ (A B : Nat → VP) (m : Nat), (∀ i, i < m → A i = B i) → FF ops A F0 m = FF ops B F0 m := by
      intro A B m
      induction m with
      | zero => intro _; rfl
      | succ m ihm => intro hAB; simp only [FF]; rw [ihm (fun i hi => hAB i (by omega)), hAB m (by omega)]
    have e1 : FF ops (fun i => if i = k then V else Vs0 i) F0 k = FF ops Vs0 F0 k := hFF _ _ k fun i hi => if_neg (by omega)
    have hrest' : wpR P C G ops K l (FF ops (fun i => if i = k then V else Vs0 i) F0 (k + 1)) := by
      simp only [FF]; rw [e1, h0]; simpa using hrest
    obtain ⟨Vs, hV, hall, hK⟩ := wpR_split l (k + 1) _ F0 (fun j => by have := hl (j + 1); simpa [Nat.add_assoc, Nat.add_comm 1 j] using this) hrest'
    have e2 : Vs k = V := by rw [hV k (by omega)]; simp
    have e3 : FF ops Vs F0 k = FF ops Vs0 F0 k := hFF _ _ k fun i hi => by rw [hV i (by omega)]; exact if_neg (by omega)
    refine ⟨Vs, fun i hi => by rw [hV i (by omega)]; exact if_neg (by omega), fun i oi hi hoi => ?_, by rw [show k + (o :: l).length = k + 1 + l.length by simp; omega]; exact hK⟩
    by_cases hik : i = k
    · subst hik; rw [h0] at hoi; cases hoi; rw [e2, e3]; exact ⟨hs, hok⟩
    · exact hall i oi (by omega) hoi

/-- THE RULE: a region that draws its order. -/
theorem wp_region_rel {id : Nat} {Q : Exit → Act → World → Prop} {a : Act} {w : World} {F0 : Nat → VP} (hm : P.follows .mixedOrders = true) (hchk : chkOps ops a.tmps.size = true) (hF : ∀ t, Stab C G (F0 t)) (hrefl : ∀ w, G w w)
    (hC : C { w with drawn := w.drawn + 1 }) (h0 : ∀ t, F0 t (a.tmps.getD t undef) { w with drawn := w.drawn + 1 })
    (h : wpR P C G ops (fun F => ∀ a' w', C w' → a'.defers = a.defers → a'.tmps.size = a.tmps.size → (∀ t, F t (a'.tmps.getD t undef) w') → Q .normal a' w') ops.toList F0) : (Code.region id ops true).wp P Q a w := by
  obtain ⟨Vs, _, hall, hK⟩ := wpR_split (P := P) ops.toList 0 (fun _ _ _ => True) F0 (fun j => by simp) h
  have hVs : ∀ i, Stab C G (if i < ops.size then Vs i else fun _ _ => True) := by
    intro i
    by_cases hi : i < ops.size
    · rw [if_pos hi]; exact (hall i ops[i] (Nat.zero_le _) (by simp [hi])).1
    · rw [if_neg hi]; exact fun _ _ _ _ _ _ _ => trivial
  have hFF : ∀ m, m ≤ ops.size → FF ops (fun i => if i < ops.size then Vs i else fun _ _ => True) F0 m = FF ops Vs F0 m := by
    intro m
    induction m with
    | zero => intro _; rfl
    | succ m ihm => intro hm'; simp only [FF]; rw [ihm (by omega), if_pos (by omega)]
  refine wp_region_any hm (wpAny_rel (C := C) (G := G) (F0 := F0) (N := a.tmps.size) (ds := a.defers) hchk hVs hF hrefl ?_ ?_ ops.size _ a _ ⟨by simp, ?_, hC, ?_, fun t _ => h0 t, rfl, rfl⟩ ?_)
  · intro i o ho
    have hi := (Array.getElem?_eq_some_iff.1 ho).1
    rw [hFF i (by omega)]
    simp only [hi, if_true]
    exact (hall i o (Nat.zero_le _) ho).2
  · intro a' w' h1 h2 h3 h4
    rw [hFF _ (Nat.le_refl _)] at h4
    have := hK
    simp only [Nat.zero_add, Array.length_toList] at this
    exact this a' w' h1 h2 h3 h4
  · intro i o ho hl
    simp only [Array.getD_eq_getD_getElem?, Array.getElem?_replicate] at hl
    split at hl <;> cases hl
  · intro i o t ho hl
    simp only [Array.getD_eq_getD_getElem?, Array.getElem?_replicate] at hl
    split at hl <;> cases hl
  · simp

/-- The same walk serves a region that goes in the order of its text. -/
theorem wpList_rel {Q : Exit → Act → World → Prop} {N : Nat} {ds : List Deferred} (hrefl : ∀ w, G w w) : ∀ (l : List Oper) (F : Nat → VP) (a : Act) (w : World),
    (∀ o ∈ l, ∀ t, o.dst = some t → t < N) → (∀ t, Stab C G (F t)) → C w → a.defers = ds → a.tmps.size = N → (∀ t, F t (a.tmps.getD t undef) w) →
    wpR P C G ops (fun F => ∀ a' w', C w' → a'.defers = ds → a'.tmps.size = N → (∀ t, F t (a'.tmps.getD t undef) w') → Q .normal a' w') l F → wpList P ops Q l a w
  | [], F, a, w, _, _, hC, hd, hN, hf, h => h a w hC hd hN hf
  | o :: l, F, a, w, hlt, hst, hC, hd, hN, hf, h => by
    obtain ⟨V, hs, hok, hrest⟩ := h
    have ho := hok a w hC (fun t _ => hf t)
    have hnext : ∀ u w', C w' → G w w' → V u w' → wpList P ops Q l (a.put o.dst u) w' := by
      intro u w' hC' hG' hv
      refine wpList_rel hrefl l (upd F o.dst V) _ w' (fun p hp => hlt p (List.mem_cons_of_mem _ hp)) ?_ hC' (by rw [put_defers]; exact hd) (by rw [put_size]; exact hN) ?_ hrest
      · intro t; unfold upd; split
        · exact hs
        · exact hst t
      · intro t
        unfold upd
        split
        · rename_i e; rw [put_tmps_eq e (by rw [hN]; exact hlt o List.mem_cons_self t e)]; exact hv
        · rename_i e; rw [put_tmps_ne e]; exact hst t _ _ _ (hf t) hC hG' hC'
    unfold wpList
    cases hw : Region.wanted o (yielded ops a.tmps) with
    | false => simp only [Bool.false_eq_true, if_false]; exact hnext undef w hC (hrefl w) (ho.2 hw)
    | true =>
      simp only [if_true]
      refine .inl ?_
      have hr := ho.1 hw
      unfold Oper.wp
      generalize (execOp a.eval o).run P w = r at *
      cases r with
      | halt x w' => exact hr.elim
      | ok n w' =>
        cases n <;> first
          | exact hr.elim
          | exact hnext _ _ hr.1 hr.2.1 hr.2.2
          | exact Calls.mono hr fun e w'' ⟨u, he, hC', hG', hv⟩ => by subst he; exact hnext u w'' hC' hG' hv
end

end Go.Proofs.Ytkmijohkblmajaa
