/- Abstract frames; guarded operations; calls by contract; the region rule over abstract frames. -/
import Derived.Test.YtkmijohkblmajaaLibD
namespace Go.Proofs.Ytkmijohkblmajaa
open Go Go.RowKit

abbrev AF := List (Nat × AV)
def look : AF → Nat → Option AV
  | [], _ => none
  | (s, x) :: r, t => if s = t then some x else look r t
def aset : AF → Nat → AV → AF
  | [], t, v => [(t, v)]
  | (s, x) :: r, t, v => if s = t then (t, v) :: r else (s, x) :: aset r t v
theorem look_aset (A : AF) (t : Nat) (v : AV) (s : Nat) : look (aset A t v) s = if s = t then some v else look A s := by
  induction A with
  | nil => simp only [aset, look]; by_cases h : t = s <;> simp [h]; intro h'; exact absurd h'.symm h
  | cons p r ih =>
    obtain ⟨q, x⟩ := p
    simp only [aset]
    by_cases hq : q = t
    · subst hq; simp only [if_true, look]
      by_cases hs : q = s
      · subst hs; simp
      · rw [if_neg hs, if_neg hs, if_neg (fun e => hs e.symm)]
    · rw [if_neg hq]; simp only [look, ih]
      by_cases hs : q = s
      · subst hs; simp [hq]
      · simp [hs]

def constAE : Value → Option AE
  | .float k b => some (.s (.c (.f k (canon k b))))
  | .agg cs => if cs.all (·.oneCell') then some (.agg (cs.toList.map constAS)) else none
  | .tuple _ => none
  | v => some (.s (.st v))

theorem constAE_den {E : Env} {w : World} {v : Value} {x : AE} (h : constAE v = some x) : x.den E v w := by
  cases v <;> simp only [constAE] at h <;> (try cases h) <;> (try (exact ⟨rfl, rfl⟩))
  · exact ⟨_, rfl, rfl⟩
  · rename_i cs
    split at h
    · rename_i hall
      cases h
      refine ⟨cs.toList, by simp, constAS_each fun v hv => ?_⟩
      exact Array.all_eq_true_iff_forall_mem.1 hall v (by simpa using hv)
    · cases h

def guardSlot (ops : Array Oper) (k : Nat × Bool) : Option Tmp := (ops[k.1]?).bind (·.dst)

/-- The condition of a guard, and the guard behind which that itself stands. -/
def gcond (ops : Array Oper) (A : AF) (k : Nat × Bool) : Option (Bool × Option (Nat × Bool)) :=
  match (guardSlot ops k).bind (look A) with
  | some (.e x) => match x.bool? with | some (β, _) => some (β == k.2, none) | none => none
  | some (.gd pk βp x) => match x.bool? with | some (β, _) => some (βp && (β == k.2), some pk) | none => none
  | _ => none

/-- An operand, for an operation behind the guard 'cur', whose condition stands behind 'par'. -/
def evG (A : AF) (cur par : Option (Nat × Bool)) : Operand → Option AE
  | .tmp t => match look A t with
    | some (.e x) => some x
    | some (.gd k _ x) => if cur = some k then some x else if par = some k then some x else none
    | _ => none
  | .const v => constAE v
  | .global _ => none
  | .func f => some (.s (.c (.lit (.func (.func f) #[] #[]))))

inductive AArg where
  | v (x : AE)
  | ref (cs : List AS)
  | sl (cs : List AS) (len : Nat)

def toArg (h : List AObj) : AE → Option AArg
  | .s (.ptr id off) => match h[id]? with
    | some o => if (o.cells.drop off).all AS.port then some (.ref ((o.cells.drop off).map AS.norm)) else none
    | none => none
  | .s (.slc id off len) => match h[id]? with
    | some o => if (o.cells.drop off).all AS.port then some (.sl ((o.cells.drop off).map AS.norm) len) else none
    | none => none
  | .s (.pref cs) => some (.ref (cs.map .c))
  | .s (.sref cs len) => some (.sl (cs.map .c) len)
  | .s (.pix ..) => none
  | .s x => some (.v (.s x.norm))
  | .agg xs => if xs.all AS.port then some (.v (.agg (xs.map AS.norm))) else none

def E0 : Env := { at_ := fun _ => (0, 0), ex := fun _ => False, M := fun _ => False }
def EF (n : Nat) : Env := { at_ := fun _ => (0, 0), ex := fun _ => False, M := fun k => k < n }

def AArg.den (w : World) : AArg → Value → Prop
  | .v x, u => x.den E0 u w
  | .ref cs, u => ∃ b o vs, u = .pointer (some ⟨b, o, none⟩) ∧ b < w.heap.size ∧ w.rangeAt b o vs ∧ Each (fun x v => x.den E0 v w) cs vs
  | .sl cs len, u => ∃ b o vs cap, u = .slice (some ⟨b, o, none⟩) len cap ∧ b < w.heap.size ∧ w.rangeAt b o vs ∧ Each (fun x v => x.den E0 v w) cs vs

def toAV : List AE → AV
  | [x] => .e x
  | xs => .tup xs

/-- A call of a function's number, from its arguments on: what it hands back, in whatever world it leaves. -/
def CallsTo (P : Program) (f : FuncId) (vs : List Value) (w : World) (R : Value → World → Prop) : Prop :=
  match (callFunc f vs.toArray).run P w with
  | .ok (.enter f args) w' => Calls P f args w' (fun e w'' => ∃ u, e = .returned u ∧ R u w'')
  | .ok (.value u) w' => R u w'
  | _ => False

abbrev Spec := List AArg → Option (List AE)
def SpecOK (P : Program) (f : FuncId) (s : Spec) : Prop :=
  ∀ args r, s args = some r → ∀ vs w, Each (AArg.den w) args vs → CallsTo P f vs w fun u w' => (toAV r).den (EF w.heap.size) u w' ∧ Below w.heap.size w w'

abbrev Ctx := List (FuncId × Spec)
def Ctx.OK (P : Program) (Γ : Ctx) : Prop := ∀ p ∈ Γ, SpecOK P p.1 p.2
def Ctx.find : Ctx → FuncId → Option Spec
  | [], _ => none
  | (g, s) :: r, f => if g = f then some s else Ctx.find r f

theorem Ctx.find_ok {P : Program} {Γ : Ctx} (h : Γ.OK P) {f : FuncId} {s : Spec} (hf : Γ.find f = some s) : SpecOK P f s := by
  induction Γ with
  | nil => cases hf
  | cons p r ih =>
    simp only [Ctx.find] at hf
    split at hf
    · rename_i e; cases hf; rw [← e]; exact h p (by simp)
    · exact ih (fun q hq => h q (by simp [hq])) hf

/-- An arm of a 'pick': behind its own guard, or open. -/
def armG (ops : Array Oper) (A : AF) (tc : Nat) (side : Bool) (cur par : Option (Nat × Bool)) : Operand → Option AE
  | .tmp t => match look A t with
    | some (.gd k _ x) => if k.2 = side ∧ guardSlot ops k = some tc then some x else if cur = some k then some x else if par = some k then some x else none
    | some (.e x) => some x
    | _ => none
  | x => evG A cur par x

/-- One operation, its guard met. -/
def absCore (P : Program) (Γ : Ctx) (h : List AObj) (ops : Array Oper) (A : AF) (cur par : Option (Nat × Bool)) (o : Oper) : Option AV :=
  match o.op with
  | .pick (.tmp tc) a b => match evG A cur par (.tmp tc), armG ops A tc true cur par a, armG ops A tc false cur par b with
    | some c, some x, some y => match c.bool? with
      | some (β, true) => some (.e (bif β then x else y))
      | some (β, false) => (mergeAE β x y).map .e
      | none => none
    | some c, some x, none => match c.bool? with
      | some (true, true) => some (.e x)
      | _ => none
    | some c, none, some y => match c.bool? with
      | some (false, true) => some (.e y)
      | _ => none
    | _, _, _ => none
  | .extract (.tmp t) ix => match look A t with
    | some (.tup xs) => (xs[ix]?).map .e
    | _ => none
  | .move (.tmp t) => match look A t with
    | some (.tup xs) => some (.tup xs)
    | _ => (absVal P h (evG A cur par) (.move (.tmp t))).map .e
  | .call { callee := .value fo, args := as, .. } => match evG A cur par fo with
    | some (.s (.c (.lit (.func (.func f) a1 a2)))) => if a1.size = 0 ∧ a2.size = 0 then
        match mapO (evG A cur par) as.toList with
        | some xs => match mapO (toArg h) xs, Γ.find f with
          | some args, some s => (s args).map toAV
          | _, _ => none
        | none => none
      else none
    | _ => none
  | op => (absVal P h (evG A cur par) op).map .e

def dstFree (ops : Array Oper) (A : AF) (d : Tmp) : Bool := A.all fun p => match p.2 with | .gd k _ _ => decide (guardSlot ops k ≠ some d) | _ => true

def absOp (P : Program) (Γ : Ctx) (h : List AObj) (ops : Array Oper) (A : AF) (o : Oper) : Option AV :=
  match o.guard with
  | none => absCore P Γ h ops A none none o
  | some k => match gcond ops A k with
    | some (c, par) => match absCore P Γ h ops A (some k) par o with
      | some (.e x) => some (.gd k c x)
      | _ => none
    | none => none

def okDst (ops : Array Oper) (A : AF) (o : Oper) (d : Tmp) : Bool := dstFree ops A d && match o.guard with | some k => decide (guardSlot ops k ≠ some d) | none => true

def absOps (P : Program) (Γ : Ctx) (h : List AObj) (ops : Array Oper) : List Oper → AF → Option AF
  | [], A => some A
  | o :: r, A => match o.dst with
    | some d => if okDst ops A o d = true then
        match absOp P Γ h ops A o with
        | some V => absOps P Γ h ops r (aset A d V)
        | none => none
      else none
    | none => match absOp P Γ h ops A o with
        | some _ => absOps P Γ h ops r A
        | none => none

/-- Guarded values are forgotten at a region's begin. -/
def strip : AF → AF
  | [] => []
  | (t, .gd _ _ _) :: r => (strip r).filter (fun p => p.1 ≠ t)
  | (t, x) :: r => (t, x) :: (strip r).filter (fun p => p.1 ≠ t)

end Go.Proofs.Ytkmijohkblmajaa
