/- From the walk to the row: arguments opened by their types, the law's step. -/
import Derived.Test.YtkmijohkblmajaaLibN
import Derived.ProofKit
import Derived.JoinedCond
namespace Go.Proofs.Ytkmijohkblmajaa
open Go Go.RowKit Go.ChangeShapes Go.WideShapes Go.ChangeAt

/-- A number or a bool of its kind. -/
def Kind (P : Program) (u : TypeId) (x : AC) : Prop := match P.underlying u, x with
  | some (.float k), .f k' y => k' = k ∧ canon k y = y ∧ y < 2 ^ k.format.width
  | some .bool, .b _ => True
  | some (.int k), .i k' n => k' = k ∧ k.has n
  | _, _ => False

def scalarT (P : Program) (u : TypeId) : Bool := match P.underlying u with
  | some (.float _) | some .bool | some (.int _) => true
  | _ => false

theorem canon_lt {k : FloatKind} {b : Nat} (h : b < 2 ^ k.format.width) : canon k b < 2 ^ k.format.width := by
  unfold canon
  split
  · cases k <;> decide
  · exact h

theorem has_width {k : FloatKind} {b : Nat} (h : k.has b) : b < 2 ^ k.format.width := by
  cases k <;> exact h

theorem open_cell {P : Program} {w : World} {base : Nat} {u : TypeId} {v : Value} (hs : scalarT P u = true) (h : Cell.okWide P w .any base u v) : ∃ x : AC, x.den v ∧ Kind P u x := by
  unfold scalarT at hs
  unfold Cell.okWide Cell.ok at h
  split at hs
  · rename_i k e
    rw [e] at h
    cases v <;> simp at h
    rename_i k' b
    obtain ⟨rfl, hb⟩ := h
    refine ⟨.f k' (canon k' b), ⟨b, rfl, rfl⟩, ?_⟩
    unfold Kind; rw [e]
    exact ⟨rfl, canon_canon _ _, canon_lt (has_width hb)⟩
  · rename_i e
    rw [e] at h
    cases v <;> simp at h
    rename_i b
    refine ⟨.b b, rfl, ?_⟩
    unfold Kind; rw [e]; trivial
  · rename_i k e
    rw [e] at h
    cases v <;> simp at h
    rename_i k' n
    obtain ⟨rfl, hb⟩ := h
    refine ⟨.i k' n, rfl, ?_⟩
    unfold Kind; rw [e]; exact ⟨rfl, hb⟩
  · cases hs

theorem open_cells {P : Program} {w : World} {base : Nat} : ∀ (ts : List TypeId) (cs : List Value), ts.all (scalarT P) = true → cs.length = ts.length → (∀ (i : Nat) (v : Value), cs[i]? = some v → ∃ u, ts[i]? = some u ∧ Cell.okWide P w .any base u v) →
    ∃ xs : List AC, Each AC.den xs cs ∧ Each (Kind P) ts xs
  | [], cs, _, hl, _ => by
    have : cs = [] := List.eq_nil_of_length_eq_zero hl
    subst this; exact ⟨[], .nil, .nil⟩
  | t :: ts, [], _, hl, _ => by simp at hl
  | t :: ts, v :: cs, hs, hl, h => by
    simp only [List.all_cons, Bool.and_eq_true] at hs
    obtain ⟨u, hu, hok⟩ := h 0 v rfl
    simp at hu; subst hu
    obtain ⟨x, hx, hk⟩ := open_cell hs.1 hok
    obtain ⟨xs, h1, h2⟩ := open_cells ts cs hs.2 (by simpa using hl) (fun i w' hi => by simpa using h (i + 1) w' (by simpa using hi))
    exact ⟨x :: xs, .cons hx h1, .cons hk h2⟩

/-- The cells' types of a type of numbers and bools. -/
def cellsT (P : Program) (t : TypeId) : Option (Bool × List TypeId) :=
  match isRowT P t, P.cellTypes P.depth t with
  | some true, some ts => if ts.all (scalarT P) && decide (P.cellsOf t = ts.length) then some (true, ts) else none
  | some false, _ => if scalarT P t then some (false, [t]) else none
  | _, _ => none

theorem open_arg {P : Program} {w : World} {base : Nat} {t : TypeId} {v : Value} {b : Bool} {ts : List TypeId} (hc : cellsT P t = some (b, ts)) (h : Value.okWide P w .any base t v) :
    ∃ xs : List AC, Each (Kind P) ts xs ∧ (if b then (AE.agg (xs.map .c)).den E0 v w else ∃ x, xs = [x] ∧ (AE.s (.c x)).den E0 v w) := by
  unfold cellsT at hc
  split at hc
  · rename_i ts' e1 e2
    split at hc
    · rename_i hcond
      cases hc
      simp only [Bool.and_eq_true, decide_eq_true_eq] at hcond
      obtain ⟨d, hu, hd⟩ := isRowT_spec e1
      have h' : ∃ cs, v = .agg cs ∧ cs.size = P.cellsOf t ∧ Row.okWide P w .any base t cs := by
        unfold Value.okWide at h
        rw [hu] at h
        cases d <;> first | exact h | (simp [TypeDesc.isRow] at hd)
      obtain ⟨cs, rfl, hsz, ts2, hts, hn, hcells⟩ := h'
      rw [e2] at hts; cases hts
      have hl : cs.size = ts.length := by rw [hsz, hcond.2]
      obtain ⟨xs, h1, h2⟩ := open_cells ts cs.toList hcond.1 (by simpa using hl) (fun i v hi => by
        obtain ⟨u, hu, hok⟩ := hcells i v (by simpa using hi)
        have hlt : i < ts.length := by have := (List.getElem?_eq_some_iff.1 hi).1; simp at this; omega
        rw [Nat.mod_eq_of_lt hlt] at hu
        exact ⟨u, hu, hok⟩)
      exact ⟨xs, h2, cs.toList, by simp, each_c h1⟩
    · cases hc
  · rename_i e1
    split at hc
    · rename_i hs
      cases hc
      obtain ⟨d, hu, hd⟩ := isRowT_spec e1
      have h' : Cell.okWide P w .any base t v := by
        unfold Value.okWide at h
        rw [hu] at h
        cases d <;> first | exact h | (simp [TypeDesc.isRow] at hd)
      obtain ⟨x, hx, hk⟩ := open_cell hs h'
      exact ⟨[x], .cons hk .nil, x, rfl, hx⟩
    · cases hc
  · cases hc

theorem trodAll_len {H : Type} {enc : TypeId × Value → H} {P : Program} {w : World} {base : Nat} {sp : Nat → Bool} {hd : Bool} : ∀ {ts : List TypeId} {vs : List Value} {ds : List (DataW H)} {ps : List MemPlace}, DataW.TrodAll enc P w base sp hd ts vs ds ps → vs.length = ts.length ∧ ds.length = ts.length
  | [], vs, ds, ps, h => by obtain ⟨rfl, rfl, _⟩ := trodAll_nil h; exact ⟨rfl, rfl⟩
  | t :: ts, vs, ds, ps, h => by
    obtain ⟨v, vs', d, ds', p, q, rfl, rfl, rfl, _, h2⟩ := trodAll_cons h
    obtain ⟨h3, h4⟩ := trodAll_len h2
    exact ⟨by simp [h3], by simp [h4]⟩

theorem trodAll_cons_mk' {H : Type} {enc : TypeId × Value → H} {P : Program} {w : World} {base : Nat} {sp : Nat → Bool} {hd : Bool} {t : TypeId} {ts : List TypeId} {v : Value} {vs : List Value} {d : DataW H} {ds : List (DataW H)} {p q : List MemPlace}
    (h : DataW.Trod enc P w base sp hd t v d p) (h' : DataW.TrodAll enc P w base sp hd ts vs ds q) : DataW.TrodAll enc P w base sp hd (t :: ts) (v :: vs) (d :: ds) (p ++ q) := ⟨p, q, h, h', rfl⟩

theorem trodAll_later {H : Type} {enc : TypeId × Value → H} {P : Program} (hl : laidOutB P = true) {w w' : World} {sp' : Nat → Bool} : ∀ {ts : List TypeId} {vs : List Value} {ds : List (DataW H)} {ps : List MemPlace}, (ts.all fun t => P.readableRec t && decide (t < P.types.size)) = true → DataW.TrodAll enc P w 0 (fun _ => true) true ts vs ds ps →
    (∀ p ∈ ps, w.sameAt w' p) → (∀ p ∈ ps, sp' p.block = true) → DataW.TrodAll enc P w' 0 sp' true ts vs ds ps
  | [], vs, ds, ps, _, h, _, _ => by obtain ⟨rfl, rfl, rfl⟩ := trodAll_nil h; exact trodAll_mk0
  | t :: ts, vs, ds, ps, hr, h, hs, hp => by
    simp only [List.all_cons, Bool.and_eq_true, decide_eq_true_eq] at hr
    obtain ⟨v, vs', d, ds', p, q, rfl, rfl, rfl, h1, h2⟩ := trodAll_cons h
    exact trodAll_cons_mk' (WideElems.Trod_stays hl hr.1.1 hr.1.2 h1 (fun x hx => hs x (by simp [hx])) (fun x hx => hp x (by simp [hx])))
      (trodAll_later hl hr.2 h2 (fun x hx => hs x (by simp [hx])) (fun x hx => hp x (by simp [hx])))

/-- THE LAW's STEP: a call that returns true and leaves what was there as it was meets the row's post. -/
theorem law_step {H : Type} {enc : TypeId × Value → H} {P : Program} {k : FuncId} {f : Func} {s : ChangeSpec} {W : World} {args : Array Value} {ds gs : List (DataW H)} {before : List MemPlace} {tb : TypeId}
    (hW : DataW.Whole enc P f.params.toList s.vars false W args.toList ds gs before) (hl : laidOutB P = true) (hread : (f.params.toList.all fun t => P.readableRec t && decide (t < P.types.size)) = true) (hvars : s.vars = [])
    (hspec : ∀ ds : List (DataW H), ds.length = f.params.toList.length → s.fn H ds = { results := [.lit (.bool true)], args := ds }) (hres : f.resultTypes = #[tb]) (htb : P.underlying tb = some .bool)
    (hcall : Calls P k args W fun e W' => e = .returned (.bool true) ∧ Below W.heap.size W W') :
    Calls P k args W fun e W' => ∃ v, e = .returned v ∧ s.post enc P f false true false false W args v W' := by
  refine hcall.mono fun e W' ⟨he, hb⟩ => ⟨.bool true, he, ?_⟩
  have hW0 := hW
  obtain ⟨p, q, hA, hV, rfl, _, _⟩ := hW
  rw [hvars] at hV
  obtain ⟨rfl, rfl⟩ := trodVars_none hV
  have hlt : ∀ x ∈ p ++ [], x.block < W.heap.size := fun x hx => hW0.lt x hx
  have hfn := hspec ds (trodAll_len hA).2
  refine ⟨ds, [], p ++ [], [], p, [], hW0, ?_, ?_, ?_, World.keptBut_mono (fun x hx => ⟨hx, ?_⟩) (hb.frame (· ∈ p ++ [])), fun h => by cases h⟩
  · rw [List.append_nil, hfn, hres]
    exact trodAll_mk1 (shut_bool htb true)
  · rw [List.append_nil, hfn]
    exact trodAll_later hl hread hA (fun x hx => hb.same (hlt x (by simpa using hx))) (fun x hx => by simpa using hlt x (by simpa using hx))
  · rw [List.append_nil, hfn, hvars]
    exact rfl
  · exact .inr (.inl (by simpa using hx))

theorem law_calls {P : Program} {k : FuncId} {fn : Func} {s : Spec} {xs : List AArg} {vs : List Value} {W : World} (hs : SpecOK P k s) (he : Enters P k fn) (h : s xs = some [.s (.c (.b true))]) (hv : Each (AArg.den W) xs vs) :
    Calls P k vs.toArray W fun e W' => e = .returned (.bool true) ∧ Below W.heap.size W W' := by
  have := hs xs _ h vs W hv
  unfold CallsTo at this
  rw [callFunc_enter he] at this
  exact this.mono fun e W' ⟨u, he, hu, hb⟩ => ⟨by rw [he]; exact congrArg _ (show u = .bool true from hu), hb⟩

end Go.Proofs.Ytkmijohkblmajaa
