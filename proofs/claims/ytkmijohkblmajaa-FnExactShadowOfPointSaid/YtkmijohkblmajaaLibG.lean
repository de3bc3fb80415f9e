/- One operation by the abstract walk; a region by it. -/
import Derived.Test.YtkmijohkblmajaaLibF
namespace Go.Proofs.Ytkmijohkblmajaa
open Go Go.RowKit

section
variable {P : Program} {Γ : Ctx} {E : Env} {T : List Nat} {w0 : World} {hp : List AObj} {ops : Array Oper}

theorem relUpon_value {V : VP} {w w' : World} {u : Value} (hC : CW E T w0 hp w) (hd : Below w.heap.size w w') (hv : V u w') : RelUpon P (CW E T w0 hp) GB w V (.ok (.value u) w') :=
  ⟨hC.below hd, hd, hv⟩

theorem run_call_func {o : Oper} {ρ : Operand → Value} {fo : Operand} {as : Array Operand} {ts : Array TypeId} {f : FuncId} (ho : o.op = .call { callee := .value fo, args := as, argTypes := ts }) (hf : ρ fo = .func (.func f) #[] #[]) (w : World) :
    (execOp ρ o).run P w = (callFunc f (as.map ρ)).run P w := by
  unfold execOp
  simp only [ho, resolve, hf, Deferred.ofValue, Sem.run_bind, Sem.run_pure, Result.andThen_ok, invoke, Array.empty_append, Array.append_empty]

theorem absCore_sound (hΓ : Γ.OK P) {A : AF} (hwf : WF ops A) {cur par : Option (Nat × Bool)} (hb : Behind ops A cur par) {o : Oper} {V : AV} {a : Act} {w : World} (hC : CW E T w0 hp w)
    (hf : ∀ t ∈ o.looksAt ops, denF E A t (a.tmps.getD t undef) w) (h : absCore P Γ hp ops A cur par o = some V) : RelUpon P (CW E T w0 hp) GB w (V.den E) ((execOp a.eval o).run P w) := by
  have hop : ∀ x ∈ o.op.operands.toList, ∀ ae, evG A cur par x = some ae → ae.den E (a.eval x) w := fun x hx ae he =>
    evG_den hwf hb (fun t ht => hf t (mem_looks_operand (by rw [← ht]; exact hx))) he
  unfold absCore at h
  split at h
  · rename_i tc x y eo
    have hx1 : Operand.tmp tc ∈ o.op.operands.toList := by rw [eo]; simp [Op.operands]
    have hx2 : x ∈ o.op.operands.toList := by rw [eo]; simp [Op.operands]
    have hx3 : y ∈ o.op.operands.toList := by rw [eo]; simp [Op.operands]
    have hcond : ∀ c β s, evG A cur par (.tmp tc) = some c → c.bool? = some (β, s) → ∀ side, side = β → ∀ k : Nat × Bool, k.2 = side → guardSlot ops k = some tc → ∀ c' p, gcond ops A k = some (c', p) → c' = true := by
      intro c β s ec ecb side hs k hk hg c' p hgc
      subst hs
      unfold gcond at hgc
      rw [hg] at hgc
      simp only [Option.bind_some] at hgc
      simp only [evG] at ec
      split at hgc
      · rename_i z e
        rw [e] at ec; simp at ec; subst ec
        rw [ecb] at hgc; simp only [Option.some.injEq, Prod.mk.injEq] at hgc
        rw [← hgc.1, hk]; simp
      · rename_i pk βp z e
        rw [e] at ec
        simp only at ec
        obtain ⟨p1, hp1⟩ := hwf tc _ _ _ e
        have hβp : βp = true := by
          split at ec
          · rename_i hk'; obtain ⟨c1, p2, h1, h2⟩ := hb.cur pk hk'; rw [hp1] at h1; cases h1; exact h2
          · split at ec
            · rename_i hk'; obtain ⟨c1, p2, h1, h2⟩ := hb.par pk hk'; rw [hp1] at h1; cases h1; exact h2
            · cases ec
        have hz : z = c := by
          split at ec
          · simpa using ec
          · split at ec
            · simpa using ec
            · cases ec
        subst hz
        rw [ecb] at hgc; simp only [Option.some.injEq, Prod.mk.injEq] at hgc
        rw [← hgc.1, hβp, hk]; simp
      · cases hgc
    have hrun : ∀ β : Bool, a.eval (.tmp tc) = .bool β → (execOp a.eval o).run P w = .ok (.value (if β then a.eval x else a.eval y)) w := by
      intro β hβ
      unfold execOp
      simp only [eo, hβ]
      cases β <;> rfl
    have hxd : ∀ z, armG ops A tc true cur par x = some z → (∀ c β s, evG A cur par (.tmp tc) = some c → c.bool? = some (β, s) → β = true → z.den E (a.eval x) w) := fun z hz c β s e1 e2 hβ =>
      armG_den hwf hb (fun t ht => hf t (mem_looks_operand (by rw [← ht]; exact hx2))) hz (hcond c β s e1 e2 true hβ.symm)
    have hyd : ∀ z, armG ops A tc false cur par y = some z → (∀ c β s, evG A cur par (.tmp tc) = some c → c.bool? = some (β, s) → β = false → z.den E (a.eval y) w) := fun z hz c β s e1 e2 hβ =>
      armG_den hwf hb (fun t ht => hf t (mem_looks_operand (by rw [← ht]; exact hx3))) hz (hcond c β s e1 e2 false hβ.symm)
    split at h
    · rename_i c zx zy e1 e2 e3
      split at h
      · rename_i β ecb
        cases h
        rw [hrun β (AE.bool?_den ecb (hop _ hx1 _ e1))]
        refine relUpon_value hC (Below.refl _ _) ?_
        cases β
        · exact hyd _ e3 c _ _ e1 ecb rfl
        · exact hxd _ e2 c _ _ e1 ecb rfl
      · rename_i β ecb
        obtain ⟨z, hz, rfl⟩ := Option.map_eq_some_iff.1 h
        rw [hrun β (AE.bool?_den ecb (hop _ hx1 _ e1))]
        refine relUpon_value hC (Below.refl _ _) (mergeAE_den hz ?_)
        cases β
        · exact hyd _ e3 c _ _ e1 ecb rfl
        · exact hxd _ e2 c _ _ e1 ecb rfl
      · cases h
    · rename_i c zx e1 e2 _
      split at h
      · rename_i ecb
        cases h
        rw [hrun true (AE.bool?_den ecb (hop _ hx1 _ e1))]
        exact relUpon_value hC (Below.refl _ _) (hxd _ e2 c _ _ e1 ecb rfl)
      · cases h
    · rename_i c zy e1 _ e3
      split at h
      · rename_i ecb
        cases h
        rw [hrun false (AE.bool?_den ecb (hop _ hx1 _ e1))]
        exact relUpon_value hC (Below.refl _ _) (hyd _ e3 c _ _ e1 ecb rfl)
      · cases h
    · cases h
  · rename_i t ix eo
    have hx1 : Operand.tmp t ∈ o.op.operands.toList := by rw [eo]; simp [Op.operands]
    have hd := hf t (mem_looks_operand hx1)
    split at h
    · rename_i xs e
      obtain ⟨z, hz, rfl⟩ := Option.map_eq_some_iff.1 h
      obtain ⟨vs, hv, he⟩ := hd _ e
      obtain ⟨u, hu, hden⟩ := he.get hz
      have : (execOp a.eval o).run P w = .ok (.value u) w := by
        unfold execOp
        simp only [eo, Act.eval]
        rw [hv]
        simp [Instr.extract, hu]
      rw [this]
      exact relUpon_value hC (Below.refl _ _) hden
    · cases h
  · rename_i t eo
    split at h
    · rename_i xs e
      cases h
      have hx1 : Operand.tmp t ∈ o.op.operands.toList := by rw [eo]; simp [Op.operands]
      have hd := hf t (mem_looks_operand hx1)
      have : (execOp a.eval o).run P w = .ok (.value (a.tmps.getD t undef)) w := by
        unfold execOp
        simp only [eo, Act.eval]
        rfl
      rw [this]
      exact relUpon_value hC (Below.refl _ _) (hd _ e)
    · rw [← eo] at h
      obtain ⟨r, hr, rfl⟩ := Option.map_eq_some_iff.1 h
      obtain ⟨u, w', hrun, hden, hd⟩ := absVal_sound (P := P) (ρ := a.eval) hr hop hC.1
      rw [hrun]
      exact relUpon_value hC (drawnOn_below hd) hden
  · rename_i fo as ts eo
    have hxf : fo ∈ o.op.operands.toList := by rw [eo]; simp [Op.operands, Call.operands]
    have hxa : ∀ x ∈ as.toList, x ∈ o.op.operands.toList := fun x hx => by rw [eo]; simp [Op.operands, Call.operands]; exact .inr (by simpa using hx)
    split at h
    · rename_i f a1 a2 ef
      split at h
      · rename_i hz
        split at h
        · rename_i xs exs
          split at h
          · rename_i args s eargs es
            obtain ⟨r, hr, rfl⟩ := Option.map_eq_some_iff.1 h
            have hfo := hop fo hxf _ ef
            have e1 : a1 = #[] := Array.eq_empty_of_size_eq_zero hz.1
            have e2 : a2 = #[] := Array.eq_empty_of_size_eq_zero hz.2
            subst e1 e2
            rw [run_call_func eo hfo.1]
            have hargs : Each (AArg.den w) args (as.toList.map a.eval) := by
              have h1 := mapO_each exs
              have h2 := mapO_each eargs
              have key : ∀ (l : List Operand) (xs : List AE) (ys : List AArg), (∀ x ∈ l, x ∈ as.toList) → Each (fun y x => evG A cur par x = some y) xs l → Each (fun y x => toArg hp x = some y) ys xs → Each (AArg.den w) ys (l.map a.eval) := by
                intro l
                induction l with
                | nil => intro xs ys _ h1 h2; cases h1; cases h2; exact .nil
                | cons x l ih =>
                  intro xs ys hl h1 h2
                  cases h1 with
                  | cons h1a h1b => cases h2 with
                    | cons h2a h2b => exact .cons (toArg_den hC.1 h2a (hop x (hxa x (hl x (by simp))) _ h1a)) (ih _ _ (fun y hy => hl y (by simp [hy])) h1b h2b)
              exact key _ _ _ (fun _ h => h) h1 h2
            have hcall := Ctx.find_ok hΓ es args r hr _ w hargs
            unfold CallsTo at hcall
            have eas : (List.map a.eval as.toList).toArray = as.map a.eval := by rw [← Array.toList_map]
            rw [eas] at hcall
            generalize (callFunc f (as.map a.eval)).run P w = res at *
            cases res with
            | halt x w' => exact hcall.elim
            | ok n w' =>
              cases n <;> first
                | exact hcall.elim
                | exact relUpon_value hC hcall.2 (AV.den_back (fun k hk => hC.1.M_lt hk) hcall.1)
                | exact Calls.mono hcall fun e w'' ⟨u, he, hu, hbw⟩ => ⟨u, he, hC.below hbw, hbw, AV.den_back (fun k hk => hC.1.M_lt hk) hu⟩
          · cases h
        · cases h
      · cases h
    · cases h
  · obtain ⟨r, hr, rfl⟩ := Option.map_eq_some_iff.1 h
    obtain ⟨u, w', hrun, hden, hd⟩ := absVal_sound (P := P) (ρ := a.eval) hr hop hC.1
    rw [hrun]
    exact relUpon_value hC (drawnOn_below hd) hden

theorem absOp_sound (hΓ : Γ.OK P) {A : AF} (hwf : WF ops A) {o : Oper} {V : AV} {F : Nat → VP} (hF : ∀ t v w, F t v w → denF E A t v w) (h : absOp P Γ hp ops A o = some V) :
    OpOK P (CW E T w0 hp) GB ops o F (V.den E) := by
  intro a w hC hfacts
  have hf : ∀ t ∈ o.looksAt ops, denF E A t (a.tmps.getD t undef) w := fun t ht => hF t _ _ (hfacts t ht)
  unfold absOp at h
  split at h
  · rename_i hg
    refine ⟨fun _ => absCore_sound hΓ hwf Behind.open_ hC hf h, fun hw => ?_⟩
    simp [Region.wanted, hg] at hw
  · rename_i k hg
    split at h
    · rename_i c par hgc
      split at h
      · rename_i x hcore
        cases h
        have hwant := gcond_wanted hg hf hgc
        refine ⟨fun hw => ?_, fun hw => ?_⟩
        · rw [hwant] at hw
          subst hw
          have hb : Behind ops A (some k) par := ⟨fun k' hk' => by cases hk'; exact ⟨_, _, hgc, rfl⟩, fun k' hk' => by subst hk'; exact gcond_par hwf hgc rfl⟩
          have := absCore_sound hΓ hwf hb hC hf hcore
          generalize (execOp a.eval o).run P w = res at *
          cases res with
          | halt x w' => exact this.elim
          | ok n w' =>
            cases n <;> first
              | exact this.elim
              | exact ⟨this.1, this.2.1, fun _ => this.2.2, (fun hc => by cases hc)⟩
              | exact Calls.mono this fun e w'' ⟨u, h1, h2, h3, h4⟩ => ⟨u, h1, h2, h3, fun _ => h4, (fun hc => by cases hc)⟩
        · rw [hwant] at hw
          subst hw
          exact ⟨(fun hc => by cases hc), fun _ => rfl⟩
      · cases h
    · cases h

theorem dstFree_spec {A : AF} {d : Tmp} (h : dstFree ops A d = true) : ∀ t k β x, look A t = some (.gd k β x) → guardSlot ops k ≠ some d := by
  induction A with
  | nil => intro t k β x hl; cases hl
  | cons p r ih =>
    obtain ⟨s, v⟩ := p
    intro t k β x hl
    simp only [dstFree, List.all_cons, Bool.and_eq_true] at h
    simp only [look] at hl
    split at hl
    · cases hl; simpa using h.1
    · exact ih h.2 t k β x hl

theorem gcond_aset {A : AF} {d : Tmp} {V : AV} {k : Nat × Bool} (h : guardSlot ops k ≠ some d) : gcond ops (aset A d V) k = gcond ops A k := by
  unfold gcond
  cases hs : guardSlot ops k with
  | none => rfl
  | some t =>
    simp only [Option.bind_some, look_aset]
    rw [if_neg (fun e => h (by rw [hs, e]))]

theorem WF.aset {A : AF} (hwf : WF ops A) {d : Tmp} {V : AV} (hd : dstFree ops A d = true) (hV : ∀ k β x, V = .gd k β x → guardSlot ops k ≠ some d ∧ ∃ par, gcond ops A k = some (β, par)) : WF ops (aset A d V) := by
  intro t k β x hl
  rw [look_aset] at hl
  split at hl
  · cases hl
    obtain ⟨h1, par, h2⟩ := hV k β x rfl
    exact ⟨par, by rw [gcond_aset h1]; exact h2⟩
  · obtain ⟨par, h2⟩ := hwf t k β x hl
    exact ⟨par, by rw [gcond_aset (dstFree_spec hd t k β x hl)]; exact h2⟩

theorem absOp_gd {A : AF} {o : Oper} {k : Nat × Bool} {β : Bool} {x : AE} (h : absOp P Γ hp ops A o = some (.gd k β x)) : o.guard = some k ∧ ∃ par, gcond ops A k = some (β, par) := by
  unfold absOp at h
  split at h
  · exfalso
    unfold absCore at h
    repeat' (first | (split at h) | cases h)
    all_goals (try (simp [Option.map_eq_some_iff] at h; done))
    all_goals (obtain ⟨r, _, hr⟩ := Option.map_eq_some_iff.1 h; unfold toAV at hr; split at hr <;> cases hr)
  · rename_i k' hg
    split at h
    · rename_i c par hgc
      split at h
      · cases h; exact ⟨hg, par, hgc⟩
      · cases h
    · cases h

theorem okDst_spec {A : AF} {o : Oper} {d : Tmp} (h : okDst ops A o d = true) : dstFree ops A d = true ∧ ∀ k, o.guard = some k → guardSlot ops k ≠ some d := by
  unfold okDst at h
  rw [Bool.and_eq_true] at h
  refine ⟨h.1, fun k hk => ?_⟩
  have := h.2
  rw [hk] at this
  simpa using this

theorem absOps_wpR (hΓ : Γ.OK P) {K : (Nat → VP) → Prop} : ∀ (l : List Oper) (A : AF) (F : Nat → VP) {A' : AF}, (∀ t v w, F t v w → denF E A t v w) → WF ops A → absOps P Γ hp ops l A = some A' →
    (∀ F' : Nat → VP, (∀ t v w, F' t v w → denF E A' t v w) → K F') → wpR P (CW E T w0 hp) GB ops K l F
  | [], A, F, A', hF, _, h, hK => by cases h; exact hK F hF
  | o :: l, A, F, A', hF, hwf, h, hK => by
    simp only [absOps] at h
    split at h
    · rename_i d hd
      split at h
      · rename_i hok
        have hok := okDst_spec hok
        split at h
        · rename_i V hV
          refine ⟨V.den E, stab_den V, absOp_sound hΓ hwf hF hV, ?_⟩
          refine absOps_wpR hΓ l (aset A d V) _ ?_ (hwf.aset hok.1 fun k β x e => ?_) h hK
          · intro t v w hu V' hl
            rw [look_aset] at hl
            unfold upd at hu
            rw [hd] at hu
            split at hl
            · rename_i e; subst e; cases hl; simpa using hu
            · rename_i e
              rw [if_neg (fun e' => e (by simpa using e'.symm))] at hu
              exact hF t v w hu V' hl
          · subst e
            obtain ⟨hg, par, hgc⟩ := absOp_gd hV
            exact ⟨hok.2 k hg, par, hgc⟩
        · cases h
      · cases h
    · rename_i hd
      split at h
      · rename_i V hV
        refine ⟨V.den E, stab_den V, absOp_sound hΓ hwf hF hV, ?_⟩
        refine absOps_wpR hΓ l A _ ?_ hwf h hK
        intro t v w hu
        unfold upd at hu
        rw [hd] at hu
        simp only [reduceCtorEq, if_false] at hu
        exact hF t v w hu
      · cases h
end

end Go.Proofs.Ytkmijohkblmajaa
