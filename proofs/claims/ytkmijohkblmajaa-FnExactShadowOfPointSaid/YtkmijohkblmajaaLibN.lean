/- THE LAW: the abstract walk of a function's code tells what a call of it does. -/
import Derived.Test.YtkmijohkblmajaaLibM
namespace Go.Proofs.Ytkmijohkblmajaa
open Go Go.RowKit

section
variable {P : Program} {Γ : Ctx} {T : List Nat} {w0 : World} {N : Nat}

theorem Post.later {E E' : Env} {w w' : World} {Q : Exit → Act → World → Prop} (hle : E.Le E' w) (hsz : w.heap.size ≤ w'.heap.size) {e : Out} {hp : List AObj} {A : AF} (h : Post E T w0 N w Q e hp A) : Post E' T w0 N w' Q e hp A :=
  fun E'' a'' w'' hle' hsz' hst => h E'' a'' w'' (hle.trans hle' hsz) (Nat.le_trans hsz hsz') hst

theorem evG_none_den {E : Env} {A : AF} {a : Act} {w : World} {x : Operand} {ae : AE} (hf : ∀ t, denF E A t (a.tmps.getD t undef) w) (h : evG A none none x = some ae) : ae.den E (a.eval x) w := by
  cases x with
  | tmp t =>
    simp only [evG] at h
    simp only [Act.eval]
    split at h
    · rename_i y e; cases h; exact hf t _ e
    · simp at h
    · cases h
  | const v => exact constAE_den h
  | global g => cases h
  | func f => cases h; exact ⟨rfl, rfl⟩

theorem look_mem {A : AF} {t : Nat} {V : AV} (h : look A t = some V) : ∃ p ∈ A, p.1 = t := by
  induction A with
  | nil => cases h
  | cons p r ih =>
    obtain ⟨s, x⟩ := p
    simp only [look] at h
    split at h
    · rename_i e; exact ⟨_, List.mem_cons_self, e⟩
    · obtain ⟨q, hq, e⟩ := ih h; exact ⟨q, List.mem_cons_of_mem _ hq, e⟩

theorem execC_sound (hΓ : Γ.OK P) (hm : P.follows .mixedOrders = true) (L : Nat) : ∀ (c : Code) (hp : List AObj) (A : AF) (E : Env) (a : Act) (w : World) (Q : Exit → Act → World → Prop), St E T w0 hp A N a w →
    (execC P Γ N L c hp A).Sat (Post E T w0 N w Q) → c.wp P Q a w
  | .skip, hp, A, E, a, w, Q, hst, h => wp_skip (h E a w (Env.Le.refl _ _) (Nat.le_refl _) hst)
  | .region id ops draw, hp, A, E, a, w, Q, hst, h => by
    simp only [execC] at h
    split at h
    · rename_i hd
      subst hd
      split at h
      · rename_i is H0 A' e
        split at h
        · rename_i hc
          rw [Bool.and_eq_true] at hc
          exact wp_region_scan hΓ hm hc.1 e hc.2 hst h
        · exact h.elim
      · exact h.elim
    · rename_i hd
      have hd : draw = false := by simpa using hd
      subst hd
      split at h
      · rename_i hp' A' e
        split at h
        · rename_i hc
          exact wp_region_list (absSeq_sound hΓ ops.toList hp _ E a w (strip_wf _ _) hst.strip hc e h)
        · exact h.elim
      · exact h.elim
  | .seq x y, hp, A, E, a, w, Q, hst, h => by
    simp only [execC] at h
    refine wp_seq (execC_sound hΓ hm L x hp A E a w _ hst ?_)
    refine Tree.sat_then (Φ := Post E T w0 N w Q) (fun hp1 A1 h1 E' a' w' hle hsz hst' => ?_) (fun e hp1 A1 hne hP => ?_) h
    · exact execC_sound hΓ hm L y hp1 A1 E' a' w' Q hst' (h1.mono fun e hp2 A2 h2 => h2.later hle hsz)
    · intro E' a' w' hle hsz hst'
      have := hP E' a' w' hle hsz hst'
      cases e with
      | normal => exact absurd rfl hne
      | ret => exact this
      | exit id => exact this
  | .cond c x y, hp, A, E, a, w, Q, hst, h => by
    simp only [execC] at h
    split at h
    · rename_i β e
      obtain ⟨ae, e1, e2⟩ := Option.bind_eq_some_iff.1 e
      have hc := AE.bool?_den e2 (evG_none_den hst.slots e1)
      refine wp_cond hc ?_
      cases β
      · exact execC_sound hΓ hm L y hp A E a w Q hst h
      · exact execC_sound hΓ hm L x hp A E a w Q hst h
    · rename_i β e
      obtain ⟨ae, e1, e2⟩ := Option.bind_eq_some_iff.1 e
      have hc := AE.bool?_den e2 (evG_none_den hst.slots e1)
      have two : (Tree.br β (execC P Γ N L x hp A) (execC P Γ N L y hp A)).Sat (Post E T w0 N w Q) → (Code.cond c x y).wp P Q a w := fun h =>
        wp_cond_split hc (fun hb => execC_sound hΓ hm L x hp A E a w Q hst (h.1 hb)) (fun hb => execC_sound hΓ hm L y hp A E a w Q hst (h.2 hb))
      unfold joinT at h
      split at h
      · rename_i hpl
        rw [Bool.and_eq_true] at hpl
        split at h
        · rename_i hp1 A1 hp2 A2 ex ey
          have kx := execC_keep (P := P) (Γ := Γ) (N := N) (L := L) x hp A hpl.1
          have ky := execC_keep (P := P) (Γ := Γ) (N := N) (L := L) y hp A hpl.2
          rw [ex] at kx
          rw [ey] at ky
          have kx := kx rfl
          have ky := ky rfl
          have hx1 : hp1 = hp := kx.1
          have hy1 : hp2 = hp := ky.1
          subst hx1
          subst hy1
          have join : ∀ (b : Bool), β = b → ∀ E' a' w', E.Le E' w → w.heap.size ≤ w'.heap.size → St E' T w0 hp2 (if b then A1 else A2) N a' w' → Q .normal a' w' := by
            intro b hb E' a' w' hle hsz hst'
            refine h E' a' w' hle hsz ⟨fun t V hV => ?_, hst'.cw, hst'.size, hst'.defers⟩
            by_cases ht : t ∈ writes x ++ writes y
            · obtain ⟨u, v, m, h1, h2, h3, rfl⟩ := look_joinAF_in ht hV
              refine mergeAE_den h3 ?_
              subst hb
              cases hβ : β
              · rw [hβ] at hst'; exact hst'.slots t _ h2
              · rw [hβ] at hst'; exact hst'.slots t _ h1
            · rw [look_joinAF ht] at hV
              obtain ⟨hV1, hV2⟩ := look_strip hV
              rw [List.mem_append, not_or] at ht
              refine hst'.slots t V ?_
              cases b
              · exact ky.2 t ht.2 V hV1 hV2
              · exact kx.2 t ht.1 V hV1 hV2
          refine wp_cond_split hc (fun hb => ?_) (fun hb => ?_)
          · refine execC_sound hΓ hm L x hp2 A E a w Q hst ?_
            rw [ex]; exact join true hb
          · refine execC_sound hΓ hm L y hp2 A E a w Q hst ?_
            rw [ey]; exact join false hb
        · exact two h
      · exact two h
    · exact h.elim
  | .block id b, hp, A, E, a, w, Q, hst, h => by
    simp only [execC] at h
    refine wp_block (execC_sound hΓ hm L b hp A E a w _ hst ?_)
    refine (Tree.sat_inBlock h).mono fun e hp1 A1 h1 => ?_
    intro E' a' w' hle hsz hst'
    cases e with
    | normal => exact h1 E' a' w' hle hsz hst'
    | ret => exact h1 E' a' w' hle hsz hst'
    | exit i =>
      simp only [Out.toExit, Exit.inBlock]
      simp only at h1
      split
      · rename_i e; rw [if_pos e] at h1; exact h1 E' a' w' hle hsz hst'
      · rename_i e; rw [if_neg e] at h1; exact h1 E' a' w' hle hsz hst'
  | .loop b, hp, A, E, a, w, Q, hst, h => by
    simp only [execC] at h
    have key : ∀ (n : Nat) (hp : List AObj) (A : AF) (E : Env) (a : Act) (w : World), St E T w0 hp A N a w → (iterT (execC P Γ N L b) n hp A).Sat (Post E T w0 N w Q) → Code.rounds P b Q n a w := by
      intro n
      induction n with
      | zero => intro hp A E a w _ h; exact h
      | succ n ih =>
        intro hp A E a w hst h
        simp only [iterT] at h
        rw [rounds_succ]
        refine execC_sound hΓ hm L b hp A E a w _ hst ?_
        refine Tree.sat_then (Φ := Post E T w0 N w Q) (fun hp1 A1 h1 E' a' w' hle hsz hst' => ?_) (fun e hp1 A1 hne hP => ?_) h
        · exact ih hp1 A1 E' a' w' hst' (h1.mono fun e hp2 A2 h2 => h2.later hle hsz)
        · intro E' a' w' hle hsz hst'
          have := hP E' a' w' hle hsz hst'
          cases e with
          | normal => exact absurd rfl hne
          | ret => exact this
          | exit id => exact this
    exact wp_loop_rounds L (key L hp A E a w hst h)
  | .exit id, hp, A, E, a, w, Q, hst, h => wp_exit (h E a w (Env.Le.refl _ _) (Nat.le_refl _) hst)
  | .ret, hp, A, E, a, w, Q, hst, h => wp_ret (h E a w (Env.Le.refl _ _) (Nat.le_refl _) hst)
  | .rangeFunc .., _, _, _, _, _, _, _, h => h.elim
  | .scope _, _, _, _, _, _, _, _, h => h.elim
  | .label _, _, _, _, _, _, _, _, h => h.elim
  | .goto _, _, _, _, _, _, _, _, h => h.elim
  | .refuse _, _, _, _, _, _, _, _, h => h.elim
end

/-! ### A function -/

/-- One number or bool, bare. -/
def AS.bare : AS → Option AS
  | .c (.ix n _) => some (.c (.i .i64 n))
  | .c x => some (.c x)
  | .st (.int k n) => some (.c (.i k n))
  | .st (.bool b) => some (.c (.b b))
  | .st v => some (.c (.lit v))
  | _ => none
def AE.bare : AE → Option AE
  | .s x => x.bare.map .s
  | .agg xs => (mapO AS.bare xs).map .agg

theorem AS.bare_den {E E' : Env} {x y : AS} {v : Value} {w w' : World} (h : x.bare = some y) (hd : x.den E v w) : y.den E' v w' := by
  unfold AS.bare at h
  split at h
  · cases h; exact hd.1
  · cases h; exact hd
  · cases h; exact hd.1
  · cases h; exact hd.1
  · cases h; exact hd
  · cases h
theorem bareL_den {E E' : Env} {w w' : World} : ∀ {xs ys : List AS} {vs : List Value}, mapO AS.bare xs = some ys → Each (fun (x : AS) u => x.den E u w) xs vs → Each (fun (x : AS) u => x.den E' u w') ys vs
  | [], ys, vs, h, hd => by cases h; cases hd; exact .nil
  | x :: xs, ys, vs, h, hd => by
    simp only [mapO] at h
    split at h
    · rename_i y ys' e1 e2
      cases h
      cases hd with
      | cons h1 h2 => exact .cons (AS.bare_den e1 h1) (bareL_den e2 h2)
    · cases h
theorem AE.bare_den {E E' : Env} {x y : AE} {v : Value} {w w' : World} (h : x.bare = some y) (hd : x.den E v w) : y.den E' v w' := by
  cases x with
  | s x => obtain ⟨z, hz, rfl⟩ := Option.map_eq_some_iff.1 h; exact AS.bare_den hz hd
  | agg xs => obtain ⟨z, hz, rfl⟩ := Option.map_eq_some_iff.1 h; obtain ⟨vs, e, he⟩ := hd; exact ⟨vs, e, bareL_den hz he⟩

def resVar (P : Program) (hp : List AObj) (A : AF) : ResultVar → Option AE
  | .tmp t => match look A t with
    | some (.e x) => x.bare
    | _ => none
  | .cell a ty => match look A a with
    | some (.e (.s (.ptr id off))) => match hp[id]? with
      | some o => (absCells P ty o.cells off).bind AE.bare
      | none => none
    | _ => none

def mergeR (β : Bool) : List AE → List AE → Option (List AE)
  | [], [] => some []
  | x :: xs, y :: ys => match mergeAE β x y, mergeR β xs ys with
    | some z, some zs => some (z :: zs)
    | _, _ => none
  | _, _ => none

def Tree.res (P : Program) (rs : List ResultVar) : Tree → Option (List AE)
  | .bad => none
  | .leaf .normal hp A => mapO (resVar P hp A) rs
  | .leaf .ret hp A => mapO (resVar P hp A) rs
  | .leaf (.exit _) _ _ => none
  | .br β t e => match t.res P rs, e.res P rs with
    | some x, some y => mergeR β x y
    | _, _ => none

def initObjs : List AArg → List AObj → List AObj
  | [], hp => hp
  | .v _ :: r, hp => initObjs r hp
  | .ref cs :: r, hp => initObjs r (hp ++ [⟨false, cs⟩])
  | .sl cs _ :: r, hp => initObjs r (hp ++ [⟨false, cs⟩])
def initAF : List AArg → Nat → Nat → AF
  | [], _, _ => []
  | .v x :: r, i, n => (i, .e x) :: initAF r (i + 1) n
  | .ref _ :: r, i, n => (i, .e (.s (.ptr n 0))) :: initAF r (i + 1) (n + 1)
  | .sl _ len :: r, i, n => (i, .e (.s (.slc n 0 len))) :: initAF r (i + 1) (n + 1)

def funcTree (P : Program) (Γ : Ctx) (L : Nat) (fn : Func) (args : List AArg) : Tree :=
  match fn.body with
  | some c => if args.length ≤ fn.ntmps then execC P Γ fn.ntmps L c (initObjs args []) (initAF args 0 0) else .bad
  | none => .bad
def funcSpec (P : Program) (Γ : Ctx) (L : Nat) (fn : Func) : Spec := fun args => (funcTree P Γ L fn args).res P fn.results.toList

def Enters (P : Program) (f : FuncId) (fn : Func) : Prop := P.funcs[f]? = some fn ∧ (fn.name == "runtime.NumGoroutine") = false ∧ fn.body.isNone = false

theorem callFunc_enter {P : Program} {f : FuncId} {fn : Func} (h : Enters P f fn) (args : Array Value) (w : World) : (callFunc f args).run P w = .ok (.enter f args) w := by
  obtain ⟨h1, h2, h3⟩ := h
  unfold callFunc
  simp only [Sem.run_bind, run_program, Result.andThen_ok, h1]
  rw [if_neg (by rw [h2]; simp), if_neg (by rw [h3]; simp)]
  rfl

/-- The start: the arguments as they came. -/
theorem init_env {w : World} : ∀ (args : List AArg) (vs : List Value) (i : Nat) (hp : List AObj) (E : Env), Each (AArg.den w) args vs → (∀ k, ¬ E.M k) → (∀ id, E.ex id ↔ id < hp.length) → HDen E w.heap.size [] hp w →
    ∃ E' : Env, E.Le E' w ∧ (∀ k, ¬ E'.M k) ∧ (∀ id, E'.ex id ↔ id < (initObjs args hp).length) ∧ HDen E' w.heap.size [] (initObjs args hp) w ∧ ∀ t V, look (initAF args i hp.length) t = some V → ∃ v, vs[t - i]? = some v ∧ i ≤ t ∧ V.den E' v w
  | [], vs, i, hp, E, h, hM, hex, hh => ⟨E, Env.Le.refl _ _, hM, hex, hh, fun t V hV => by cases hV⟩
  | x :: args, vs, i, hp, E, h, hM, hex, hh => by
    cases h with
    | cons hx hr =>
      rename_i v vs
      -- an object comes in
      have obj : ∀ (cs us : List _) (b o : Nat), b < w.heap.size → w.rangeAt b o us → Each (fun (x : AS) v => x.den E0 v w) cs us →
          ∃ E1 : Env, E.Le E1 w ∧ (∀ k, ¬ E1.M k) ∧ (∀ id, E1.ex id ↔ id < (hp ++ [(⟨false, cs⟩ : AObj)]).length) ∧ HDen E1 w.heap.size [] (hp ++ [⟨false, cs⟩]) w ∧ E1.at_ hp.length = (b, o) := by
        intro cs us b o hb hro hcs
        refine ⟨{ at_ := fun j => if j = hp.length then (b, o) else E.at_ j, ex := fun j => j < hp.length + 1, M := fun _ => False }, ⟨fun j hj => ?_, fun j hj => ?_, fun k hk => hk.elim⟩, fun k hk => hk, fun id => by simp, ?_, if_pos rfl⟩
        · have := (hex j).1 hj; show j < hp.length + 1; omega
        · have := (hex j).1 hj; exact if_neg (by omega)
        · refine ⟨fun id hid => by simpa using hid, fun id ob hob hid => ?_, fun i j ob hob hown => ?_, fun k hk => hk.elim⟩
          · by_cases e : id = hp.length
            · subst e
              simp at hob; subst hob
              refine ⟨us, by simpa using hro, by simpa using hb, hcs.mono fun x v hd => ?_, (fun hc => by cases hc), fun _ hk => hk⟩
              -- from E0
              refine AS.den_kept (E := E0) hd ⟨fun _ h => h.elim, fun _ h => h.elim, fun k hk => hk.elim⟩ (Kept.refl _ _)
            · have hid' : id < hp.length := by have : id < hp.length + 1 := hid; omega
              rw [List.getElem?_append_left hid'] at hob
              obtain ⟨ws, g1, g2, g3, g4, g5⟩ := hh.obj id ob hob ((hex id).2 hid')
              refine ⟨ws, by simpa [e] using g1, by simpa [e] using g2, g3.mono fun x v hd => AS.den_kept hd ⟨fun j hj => ?_, fun j hj => ?_, fun k hk => hk.elim⟩ (Kept.refl _ _), fun hc => absurd (g4 hc).2.1 (hM _), fun _ hk => hk⟩
              · have := (hex j).1 hj; show j < hp.length + 1; omega
              · have := (hex j).1 hj; exact if_neg (by omega)
          · intro hxi
            exfalso
            by_cases e : i = hp.length
            · subst e; simp at hob; subst hob; cases hown
            · have hid' : i < hp.length := by have : i < hp.length + 1 := hxi; omega
              rw [List.getElem?_append_left hid'] at hob
              obtain ⟨ws, g1, g2, g3, g4, g5⟩ := hh.obj i ob hob ((hex i).2 hid')
              exact hM _ (g4 hown).2.1
      cases x with
      | v x =>
        obtain ⟨E', h1, h2, h3, h4, h5⟩ := init_env args vs (i + 1) hp E hr hM hex hh
        refine ⟨E', h1, h2, h3, h4, fun t V hV => ?_⟩
        simp only [initAF, look] at hV
        split at hV
        · rename_i e; subst e; cases hV
          refine ⟨v, by simp, Nat.le_refl _, ?_⟩
          have hd : x.den E0 v w := hx
          exact AE.den_kept hd ⟨fun _ h => h.elim, fun _ h => h.elim, fun k hk => absurd hk (h2 k)⟩ (Kept.refl _ _)
        · rename_i e
          obtain ⟨u, hu, hi, hd⟩ := h5 t V hV
          exact ⟨u, by rw [show t - i = (t - (i + 1)) + 1 by omega]; simpa using hu, by omega, hd⟩
      | ref cs =>
        obtain ⟨b, o, us, rfl, hb, hro, hcs⟩ := hx
        obtain ⟨E1, g1, g2, g3, g4, g5⟩ := obj cs us b o hb hro hcs
        obtain ⟨E', h1, h2, h3, h4, h5⟩ := init_env args vs (i + 1) _ E1 hr g2 g3 g4
        refine ⟨E', g1.trans h1 (Nat.le_refl _), h2, h3, h4, fun t V hV => ?_⟩
        simp only [initAF, look] at hV
        split at hV
        · rename_i e; subst e; cases hV
          have hex1 : E1.ex hp.length := (g3 _).2 (by simp)
          refine ⟨.pointer (some ⟨b, o, none⟩), by simp, Nat.le_refl _, h1.ex _ hex1, ?_⟩
          rw [h1.at_ _ hex1, g5]; rfl
        · rename_i e
          obtain ⟨u, hu, hi, hd⟩ := h5 t V (by simpa using hV)
          exact ⟨u, by rw [show t - i = (t - (i + 1)) + 1 by omega]; simpa using hu, by omega, hd⟩
      | sl cs len =>
        obtain ⟨b, o, us, cap, rfl, hb, hro, hcs⟩ := hx
        obtain ⟨E1, g1, g2, g3, g4, g5⟩ := obj cs us b o hb hro hcs
        obtain ⟨E', h1, h2, h3, h4, h5⟩ := init_env args vs (i + 1) _ E1 hr g2 g3 g4
        refine ⟨E', g1.trans h1 (Nat.le_refl _), h2, h3, h4, fun t V hV => ?_⟩
        simp only [initAF, look] at hV
        split at hV
        · rename_i e; subst e; cases hV
          have hex1 : E1.ex hp.length := (g3 _).2 (by simp)
          refine ⟨.slice (some ⟨b, o, none⟩) len cap, by simp, Nat.le_refl _, h1.ex _ hex1, cap, ?_⟩
          rw [h1.at_ _ hex1, g5]; rfl
        · rename_i e
          obtain ⟨u, hu, hi, hd⟩ := h5 t V (by simpa using hV)
          exact ⟨u, by rw [show t - i = (t - (i + 1)) + 1 by omega]; simpa using hu, by omega, hd⟩

theorem mergeR_den {E : Env} {w : World} {β : Bool} : ∀ {xs ys zs : List AE}, mergeR β xs ys = some zs → ∀ {vs : List Value}, (if β then Each (fun (x : AE) u => x.den E u w) xs vs else Each (fun (x : AE) u => x.den E u w) ys vs) → Each (fun (x : AE) u => x.den E u w) zs vs
  | [], [], zs, h, vs, hv => by cases h; cases β <;> exact hv
  | x :: xs, y :: ys, zs, h, vs, hv => by
    simp only [mergeR] at h
    split at h
    · rename_i z zs' e1 e2
      cases h
      cases β
      · cases hv with | cons h1 h2 => exact .cons (mergeAE_den e1 h1) (mergeR_den e2 h2)
      · cases hv with | cons h1 h2 => exact .cons (mergeAE_den e1 h1) (mergeR_den e2 h2)
    · cases h
  | [], _ :: _, _, h, _, _ => by cases h
  | _ :: _, [], _, h, _, _ => by cases h

/-- The values of the result variables, as they are read at the end. -/
def rvRun (tmps : Array Value) : ResultVar → Sem Value
  | .tmp t => pure (tmps.getD t undef)
  | .cell x t => do loadVar t (← asAddr (tmps.getD x undef))
def ResVals (P : Program) (rs : List ResultVar) (a : Act) (w : World) (vs : List Value) : Prop :=
  (rs.mapM (rvRun a.tmps)).run P w = .ok vs w

theorem results_run {P : Program} {fn : Func} {a : Act} {w : World} {vs : List Value} (h : ResVals P fn.results.toList a w vs) :
    (results fn a.tmps).run P w = .ok (if h : vs.toArray.size = 1 then vs.toArray[0] else .tuple vs.toArray) w := by
  have e : results fn a.tmps = (do
      let vs ← List.toArray <$> fn.results.toList.mapM (rvRun a.tmps)
      pure (if h : vs.size = 1 then vs[0] else .tuple vs)) := by
    unfold results
    rw [Array.mapM_eq_mapM_toList]
    congr 3
  unfold ResVals at h
  rw [e, Sem.run_bind, Sem.run_map, h]
  rfl

theorem resVals_of {P : Program} {E E' : Env} {T : List Nat} {w0 w : World} {hp : List AObj} {A : AF} {N : Nat} {a : Act} (hst : St E T w0 hp A N a w) : ∀ (rs : List ResultVar) {r : List AE}, mapO (resVar P hp A) rs = some r →
    ∃ vs, ResVals P rs a w vs ∧ Each (fun (x : AE) u => x.den E' u w) r vs
  | [], r, h => by cases h; exact ⟨[], rfl, .nil⟩
  | x :: rs, r, h => by
    simp only [mapO] at h
    split at h
    · rename_i y ys e1 e2
      cases h
      obtain ⟨vs, h1, h2⟩ := resVals_of (E' := E') hst rs e2
      have one : ∃ v, (rvRun a.tmps x).run P w = .ok v w ∧ y.den E' v w := by
        cases x with
        | tmp t =>
          simp only [resVar] at e1
          split at e1
          · rename_i z ez
            exact ⟨_, rfl, AE.bare_den e1 (hst.slots t _ ez)⟩
          · cases e1
        | cell x t =>
          simp only [resVar] at e1
          split at e1
          · rename_i id off ez
            split at e1
            · rename_i ob eo
              obtain ⟨z, hz, hb⟩ := Option.bind_eq_some_iff.1 e1
              have hd := hst.slots x _ ez
              obtain ⟨us, g1, _, g3, _⟩ := hst.cw.1.obj id ob eo hd.1
              obtain ⟨u, hu, hden⟩ := absCells_load hz g1 g3
              refine ⟨u, ?_, AE.bare_den hb hden⟩
              show (do loadVar t (← asAddr (a.tmps.getD x undef)) : Sem Value).run P w = _
              rw [show a.tmps.getD x undef = _ from hd.2]
              simp only [asAddr, Sem.run_bind, Sem.run_pure, Result.andThen_ok]
              exact hu
            · cases e1
          · cases e1
      obtain ⟨v, hv, hvd⟩ := one
      refine ⟨v :: vs, ?_, .cons hvd h2⟩
      unfold ResVals at h1 ⊢
      rw [List.mapM_cons, Sem.run_bind, hv, Result.andThen_ok, Sem.run_bind, h1, Result.andThen_ok]
      rfl
    · cases h

theorem toAV_den {E : Env} {w : World} {r : List AE} {vs : List Value} (h : Each (fun (x : AE) u => x.den E u w) r vs) : (toAV r).den E (if h : vs.toArray.size = 1 then vs.toArray[0] else .tuple vs.toArray) w := by
  cases h with
  | nil => exact ⟨[], by simp, .nil⟩
  | cons h1 h2 =>
    cases h2 with
    | nil => simpa [toAV, AV.den] using h1
    | cons h3 h4 =>
      rename_i x v y u ys us
      refine ⟨v :: u :: us, ?_, .cons h1 (.cons h3 h4)⟩
      rw [dif_neg (by simp)]

theorem res_sat {P : Program} {fn : Func} {E : Env} {w0 w : World} {N n : Nat} {r : List AE} : ∀ {t : Tree}, t.res P fn.results.toList = some r →
    t.Sat (Post E [] w0 N w (bodyPost P fn fun e w'' => ∃ u, e = .returned u ∧ (toAV r).den (EF n) u w'' ∧ Below w0.heap.size w0 w''))
  | .bad, h => by cases h
  | .leaf e hp A, h => by
    have key : mapO (resVar P hp A) fn.results.toList = some r → ∀ E' a' w', St E' [] w0 hp A N a' w' → a'.defers = [] ∧ ∃ v, (results fn a'.tmps).run P w' = .ok v w' ∧ ∃ u, Ending.returned v = .returned u ∧ (toAV r).den (EF n) u w' ∧ Below w0.heap.size w0 w' := by
      intro hr E' a' w' hst
      obtain ⟨vs, h1, h2⟩ := resVals_of (E' := EF n) hst _ hr
      exact ⟨hst.defers, _, results_run h1, _, rfl, toAV_den h2, hst.cw.2.to_below⟩
    cases e with
    | normal => exact fun E' a' w' _ _ hst => key h E' a' w' hst
    | ret => exact fun E' a' w' _ _ hst => key h E' a' w' hst
    | exit id => cases h
  | .br β t e, h => by
    simp only [Tree.res] at h
    split at h
    · rename_i x y e1 e2
      have go : ∀ (b : Bool), β = b → ∀ (z : List AE) (s : Tree), s.res P fn.results.toList = some z → (∀ vs (w'' : World), Each (fun (x : AE) u => x.den (EF n) u w'') z vs → Each (fun (x : AE) u => x.den (EF n) u w'') r vs) → s.Sat (Post E [] w0 N w (bodyPost P fn fun e w'' => ∃ u, e = .returned u ∧ (toAV r).den (EF n) u w'' ∧ Below w0.heap.size w0 w'')) := by
        intro b _ z s
        induction s generalizing z with
        | bad => intro h _; cases h
        | leaf e hp A =>
          intro h hz
          have key : mapO (resVar P hp A) fn.results.toList = some z → ∀ E' a' w', St E' [] w0 hp A N a' w' → a'.defers = [] ∧ ∃ v, (results fn a'.tmps).run P w' = .ok v w' ∧ ∃ u, Ending.returned v = .returned u ∧ (toAV r).den (EF n) u w' ∧ Below w0.heap.size w0 w' := by
            intro hr E' a' w' hst
            obtain ⟨vs, h1, h2⟩ := resVals_of (E' := EF n) hst _ hr
            exact ⟨hst.defers, _, results_run h1, _, rfl, toAV_den (hz _ _ h2), hst.cw.2.to_below⟩
          cases e with
          | normal => exact fun E' a' w' _ _ hst => key h E' a' w' hst
          | ret => exact fun E' a' w' _ _ hst => key h E' a' w' hst
          | exit id => cases h
        | br γ t e iht ihe =>
          intro h hz
          simp only [Tree.res] at h
          split at h
          · rename_i x y e1 e2
            refine ⟨fun hb => iht x e1 fun vs w'' hx => hz vs w'' (mergeR_den h (by rw [hb]; exact hx)), fun hb => ihe y e2 fun vs w'' hy => hz vs w'' (mergeR_den h (by rw [hb]; exact hy))⟩
          · cases h
      exact ⟨fun hb => go true hb x t e1 fun vs w'' hx => mergeR_den h (by rw [hb]; exact hx), fun hb => go false hb y e e2 fun vs w'' hy => mergeR_den h (by rw [hb]; exact hy)⟩
    · cases h

/-- THE LAW OF A FUNCTION. -/
theorem func_sound {P : Program} {Γ : Ctx} (hΓ : Γ.OK P) (hm : P.follows .mixedOrders = true) (L : Nat) {f : FuncId} {fn : Func} (he : Enters P f fn) : SpecOK P f (funcSpec P Γ L fn) := by
  intro args r h vs w hargs
  unfold CallsTo
  rw [callFunc_enter he]
  unfold funcSpec funcTree at h
  cases hb : fn.body with
  | none => rw [hb] at h; cases h
  | some c =>
    rw [hb] at h
    simp only at h
    split at h
    · rename_i hlen
      have hl : vs.length = args.length := hargs.length.symm
      refine calls_of_wp he.1 hb ?_
      obtain ⟨E, h1, h2, h3, h4, h5⟩ := init_env args vs 0 [] E0 hargs (fun _ h => h) (fun id => by simp [E0]) ⟨fun _ h => h.elim, fun _ _ _ h => h.elim, fun _ _ _ _ _ h => h.elim, fun _ h => h.elim⟩
      refine execC_sound (T := []) (w0 := w) (N := fn.ntmps) hΓ hm L c _ _ E _ w _ ⟨fun t V hV => ?_, ⟨h4, KeptT.refl _ _⟩, ?_, rfl⟩ (res_sat h)
      · obtain ⟨v, hv, _, hd⟩ := h5 t V hV
        simp only [Nat.sub_zero] at hv
        have : (vs.toArray ++ Array.replicate (fn.ntmps - vs.toArray.size) undef).getD t undef = v := by
          have ht := (List.getElem?_eq_some_iff.1 hv).1
          simp only [Array.getD_eq_getD_getElem?]
          rw [Array.getElem?_append_left (by simpa using ht)]
          simp [hv]
        show V.den E ((vs.toArray ++ Array.replicate (fn.ntmps - vs.toArray.size) undef).getD t undef) w
        rw [this]; exact hd
      · simp; omega
    · cases h

theorem SpecOK.of_le {P : Program} {f : FuncId} {s s' : Spec} (h : SpecOK P f s) (hs : ∀ args r, s' args = some r → s args = some r) : SpecOK P f s' := fun args r hr vs w ha => h args r (hs args r hr) vs w ha

end Go.Proofs.Ytkmijohkblmajaa
