/- A region that draws its order, makes memory and writes once: whatever order its edges allow. -/
import Derived.Test.YtkmijohkblmajaaLibH
namespace Go.Proofs.Ytkmijohkblmajaa
open Go Go.RowKit

/-! ### More objects than are looked at make no difference -/
section
variable {P : Program} {Γ : Ctx} {hp : List AObj} {more : List AObj} {ops : Array Oper}

theorem get_append {α : Type} {xs ys : List α} {i : Nat} {x : α} (h : xs[i]? = some x) : (xs ++ ys)[i]? = some x := by
  rw [List.getElem?_append_left (List.getElem?_eq_some_iff.1 h).1]; exact h

theorem toArg_mono {x : AE} {y : AArg} (h : toArg hp x = some y) : toArg (hp ++ more) x = some y := by
  unfold toArg at h ⊢
  split at h
  · rename_i id off
    split at h
    · rename_i o e; rw [get_append e]; exact h
    · cases h
  · rename_i id off len
    split at h
    · rename_i o e; rw [get_append e]; exact h
    · cases h
  · exact h
  · exact h
  · cases h
  · rename_i s n1 n2 n3 n4 n5
    cases s <;> first | exact h | exact absurd rfl (n1 _ _) | exact absurd rfl (n2 _ _ _) | exact absurd rfl (n5 _ _ _ _ _)
  · exact h

theorem mapO_mono {α β : Type} {f g : α → Option β} (hfg : ∀ x y, f x = some y → g x = some y) : ∀ {xs : List α} {ys : List β}, mapO f xs = some ys → mapO g xs = some ys
  | [], ys, h => h
  | x :: xs, ys, h => by
    simp only [mapO] at h ⊢
    split at h
    · rename_i y ys' e1 e2; rw [hfg _ _ e1, mapO_mono hfg e2]; exact h
    · cases h

theorem absVal_mono {ev : Operand → Option AE} {op : Op} {r : AE} (h : absVal P hp ev op = some r) : absVal P (hp ++ more) ev op = some r := by
  cases op <;> try exact h
  case load t p =>
    simp only [absVal] at h ⊢
    split at h
    · rename_i id off e
      obtain ⟨o, ho, h⟩ := Option.bind_eq_some_iff.1 h
      rw [get_append ho]; exact h
    · exact h
    · rename_i id off n B z e
      obtain ⟨o, ho, h⟩ := Option.bind_eq_some_iff.1 h
      rw [get_append ho]; exact h
    · cases h
  case slice t x lo hi mx =>
    cases lo <;> cases hi <;> cases mx <;> exact h
  case call c =>
    obtain ⟨callee, as, ts⟩ := c
    cases callee <;> try exact h
    rename_i bi
    cases bi <;> exact h

theorem absCore_mono {A : AF} {cur par : Option (Nat × Bool)} {o : Oper} {V : AV} (h : absCore P Γ hp ops A cur par o = some V) : absCore P Γ (hp ++ more) ops A cur par o = some V := by
  unfold absCore at h ⊢
  split at h
  · exact h
  · exact h
  · split at h
    · exact h
    · obtain ⟨r, hr, rfl⟩ := Option.map_eq_some_iff.1 h
      rw [absVal_mono hr]; rfl
  · split at h
    · split at h
      · split at h
        · rename_i xs exs
          split at h
          · rename_i args s ea es
            rw [mapO_mono (fun _ _ h => toArg_mono h) ea]
            simp only [*, and_self, if_true]
          · cases h
        · cases h
      · cases h
    · cases h
  · obtain ⟨r, hr, rfl⟩ := Option.map_eq_some_iff.1 h
    rw [absVal_mono hr]; rfl

theorem absOp_mono {A : AF} {o : Oper} {V : AV} (h : absOp P Γ hp ops A o = some V) : absOp P Γ (hp ++ more) ops A o = some V := by
  unfold absOp at h ⊢
  split at h
  · exact absCore_mono h
  · split at h
    · split at h
      · rename_i x e
        rw [absCore_mono e]; exact h
      · cases h
    · cases h
end

/-! ### The general rule on orders -/
section
variable {P : Program} {ops : Array Oper}

def Closed (ops : Array Oper) (L : Array Bool) : Prop := ∀ i o, ops[i]? = some o → L.getD i false = true → ∀ e ∈ o.after, Region.binds .any e = true → L.getD e.on false = true

def UponI (P : Program) (o : Oper) (a : Act) (I : Act → World → Prop) : Result Next → Prop
  | .ok (.value u) w' => I (a.put o.dst u) w'
  | .ok .skip w' => I (a.put o.dst undef) w'
  | .ok (.enter f args) w' => Calls P f args w' (fun e w'' => ∃ u, e = .returned u ∧ I (a.put o.dst u) w'')
  | _ => False

theorem wpOp_of_uponI {Q : Exit → Act → World → Prop} {i : Nat} {o : Oper} {a : Act} {w : World} {I K : Act → World → Prop} (ho : ops[i]? = some o) (hIK : ∀ a w, I a w → K a w)
    (h : (Region.wanted o (yielded ops a.tmps) = true → UponI P o a I ((execOp a.eval o).run P w)) ∧ (Region.wanted o (yielded ops a.tmps) = false → I (a.put o.dst undef) w)) : wpOp P ops Q i K a w := by
  unfold wpOp
  simp only [ho]
  cases hw : Region.wanted o (yielded ops a.tmps) with
  | false => simp only [Bool.false_eq_true, if_false]; exact hIK _ _ (h.2 hw)
  | true =>
    simp only [if_true]
    refine .inl ?_
    have hr := h.1 hw
    unfold Oper.wp
    generalize (execOp a.eval o).run P w = r at *
    cases r with
    | halt x w' => exact hr.elim
    | ok n w' =>
      cases n <;> first
        | exact hr.elim
        | exact hIK _ _ hr
        | exact Calls.mono hr fun e w'' ⟨u, he, hv⟩ => by subst he; exact hIK _ _ hv

theorem ready_after {L : Array Bool} {i : Nat} (hi : i ∈ Region.ready .any ops L) : ∃ o, ops[i]? = some o ∧ L.getD i true = false ∧ ∀ e ∈ o.after, Region.binds .any e = true → L.getD e.on false = true := by
  obtain ⟨h1, o, h2, h3⟩ := mem_ready_iff.1 hi
  exact ⟨o, h2, h1, h3⟩

theorem Closed.set {L : Array Bool} (h : Closed ops L) {i : Nat} {o : Oper} (ho : ops[i]? = some o) (hi : i < L.size) (hafter : ∀ e ∈ o.after, Region.binds .any e = true → L.getD e.on false = true) : Closed ops (L.setIfInBounds i true) := by
  intro k ok hok hl e he hb
  rw [getD_set_bool _ _ _ _ hi] at hl ⊢
  by_cases hk : i = k
  · subst hk; rw [ho] at hok; cases hok
    split
    · rfl
    · exact hafter e he hb
  · rw [if_neg hk] at hl
    split
    · rfl
    · exact h k ok hok hl e he hb

theorem unlisted_dec (L : Array Bool) (i : Nat) (hi : i < L.size) (h : L.getD i true = false) : ((L.setIfInBounds i true).toList.filter (!·)).length + 1 = (L.toList.filter (!·)).length := by
  have hget : L.toList[i]'(by simpa using hi) = false := by
    simp only [Array.getD_eq_getD_getElem?, hi, getElem?_pos, Option.getD_some] at h
    simpa using h
  rw [Array.toList_setIfInBounds]
  have key : ∀ (l : List Bool) (i : Nat) (hi : i < l.length), l[i] = false → ((l.set i true).filter (!·)).length + 1 = (l.filter (!·)).length := by
    intro l
    induction l with
    | nil => intro i hi; cases hi
    | cons x l ihl =>
      intro i hi hx
      cases i with
      | zero => simp only [List.getElem_cons_zero] at hx; subst hx; simp
      | succ i =>
        have := ihl i (by simpa using hi) (by simpa using hx)
        cases x <;> simp_all
  exact key _ i (by simpa using hi) hget

theorem wpAny_inv {N : Nat} {Q : Exit → Act → World → Prop} (hchk : chkOps ops N = true) (Inv : Array Bool → Act → World → Prop)
    (hstep : ∀ (L : Array Bool) (a : Act) (w : World) (i : Nat) (o : Oper), L.size = ops.size → Closed ops L → ops[i]? = some o → L.getD i true = false → (∀ e ∈ o.after, Region.binds .any e = true → L.getD e.on false = true) → Inv L a w →
      (Region.wanted o (yielded ops a.tmps) = true → UponI P o a (Inv (L.setIfInBounds i true)) ((execOp a.eval o).run P w)) ∧ (Region.wanted o (yielded ops a.tmps) = false → Inv (L.setIfInBounds i true) (a.put o.dst undef) w))
    (hend : ∀ (L : Array Bool) (a : Act) (w : World), L.size = ops.size → (∀ i, i < ops.size → L.getD i false = true) → Inv L a w → Q .normal a w) :
    ∀ (fuel : Nat) (L : Array Bool) (a : Act) (w : World), L.size = ops.size → Closed ops L → Inv L a w → (L.toList.filter (!·)).length ≤ fuel → wpAny P .any ops Q fuel L a w := by
  have hall : ∀ (L : Array Bool), L.size = ops.size → Region.ready .any ops L = [] → ∀ i, i < ops.size → L.getD i false = true := by
    intro L hL hr i
    induction i using Nat.strongRecOn with
    | _ i ih =>
      intro hi
      have ho : ops[i]? = some ops[i] := by simp [hi]
      by_cases hl : L.getD i false = true
      · exact hl
      · have : i ∈ Region.ready .any ops L := mem_ready_iff.2 ⟨by
          have hli : i < L.size := by omega
          simp only [Array.getD_eq_getD_getElem?, hli, getElem?_pos, Option.getD_some] at hl ⊢
          simpa using hl, ops[i], ho, fun e he hb => ih e.on (chk_back hchk ho he hb) (by have := chk_back hchk ho he hb; omega)⟩
        rw [hr] at this; cases this
  intro fuel
  induction fuel with
  | zero =>
    intro L a w hL hcl hI hf
    have hr : Region.ready .any ops L = [] := by
      rw [List.eq_nil_iff_forall_not_mem]
      intro i hi
      obtain ⟨o, ho, h1, _⟩ := ready_after hi
      have := unlisted_dec L i (by rw [hL]; exact (Array.getElem?_eq_some_iff.1 ho).1) h1
      omega
    exact ⟨hr, hend L a w hL (hall L hL hr) hI⟩
  | succ fuel ih =>
    intro L a w hL hcl hI hf
    refine ⟨fun hr => hend L a w hL (hall L hL hr) hI, fun i hi => ?_⟩
    obtain ⟨o, ho, h1, h2⟩ := ready_after hi
    have hli : i < L.size := by rw [hL]; exact (Array.getElem?_eq_some_iff.1 ho).1
    exact wpOp_of_uponI ho (fun a w hI' => ih _ a w (by simpa using hL) (hcl.set ho hli h2) hI' (by have := unlisted_dec L i hli h1; omega)) (hstep L a w i o hL hcl ho h1 h2 hI)

theorem wp_region_inv {N id : Nat} {Q : Exit → Act → World → Prop} {a : Act} {w : World} (hm : P.follows .mixedOrders = true) (hchk : chkOps ops N = true) (Inv : Array Bool → Act → World → Prop)
    (hstep : ∀ (L : Array Bool) (a : Act) (w : World) (i : Nat) (o : Oper), L.size = ops.size → Closed ops L → ops[i]? = some o → L.getD i true = false → (∀ e ∈ o.after, Region.binds .any e = true → L.getD e.on false = true) → Inv L a w →
      (Region.wanted o (yielded ops a.tmps) = true → UponI P o a (Inv (L.setIfInBounds i true)) ((execOp a.eval o).run P w)) ∧ (Region.wanted o (yielded ops a.tmps) = false → Inv (L.setIfInBounds i true) (a.put o.dst undef) w))
    (hend : ∀ (L : Array Bool) (a : Act) (w : World), L.size = ops.size → (∀ i, i < ops.size → L.getD i false = true) → Inv L a w → Q .normal a w)
    (h0 : Inv (Array.replicate ops.size false) a { w with drawn := w.drawn + 1 }) : (Code.region id ops true).wp P Q a w := by
  refine wp_region_any hm (wpAny_inv hchk Inv hstep hend _ _ _ _ (by simp) ?_ h0 ?_)
  · intro i o _ hl
    simp only [Array.getD_eq_getD_getElem?, Array.getElem?_replicate] at hl
    split at hl <;> cases hl
  · simp
end

end Go.Proofs.Ytkmijohkblmajaa
