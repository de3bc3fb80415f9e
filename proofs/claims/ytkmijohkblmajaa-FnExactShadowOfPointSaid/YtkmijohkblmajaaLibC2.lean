/- Cells laid into a row, part by part. -/
import Derived.Test.YtkmijohkblmajaaLibC
namespace Go.Proofs.Ytkmijohkblmajaa
open Go Go.RowKit

def splice {α : Type} (cs : List α) (off : Nat) (ys : List α) : List α := cs.take off ++ ys ++ cs.drop (off + ys.length)

theorem splice_length {α : Type} {cs ys : List α} {off : Nat} (h : off + ys.length ≤ cs.length) : (splice cs off ys).length = cs.length := by
  simp [splice]; omega

theorem splice_get {α : Type} {cs ys : List α} {off : Nat} (h : off + ys.length ≤ cs.length) (j : Nat) : (splice cs off ys)[j]? = if off ≤ j ∧ j < off + ys.length then ys[j - off]? else cs[j]? := by
  unfold splice
  have ht : (cs.take off).length = off := by simp; omega
  by_cases h1 : j < off
  · rw [if_neg (by omega), List.append_assoc, List.getElem?_append_left (by omega), List.getElem?_take, if_pos h1]
  · by_cases h2 : j < off + ys.length
    · rw [if_pos ⟨by omega, h2⟩, List.append_assoc, List.getElem?_append_right (by omega), ht, List.getElem?_append_left (by omega)]
    · rw [if_neg (by omega), List.getElem?_append_right (by simp; omega), List.getElem?_drop]
      congr 1
      simp; omega

theorem Each.splice {α β : Type} {R : α → β → Prop} {xs ys : List α} {us vs : List β} (h : Each R xs us) (h' : Each R ys vs) (off : Nat) : Each R (splice xs off ys) (splice us off vs) := by
  unfold Go.Proofs.Ytkmijohkblmajaa.splice
  rw [h'.length]
  exact ((h.take off).append h').append (h.drop _)

/-- One part, cell by cell, as 'build' lays it. -/
theorem foldl_set (vs : List Value) : ∀ (off k : Nat) (cs : Array Value), off + k + vs.length ≤ cs.size →
    ((vs.zipIdx k).foldl (fun (cs : Array Value) (p : Value × Nat) => cs.setIfInBounds (off + p.2) p.1) cs).toList = splice cs.toList (off + k) vs := by
  induction vs with
  | nil => intro off k cs _; simp [splice]
  | cons v vs ih =>
    intro off k cs h
    simp only [List.length_cons] at h
    rw [List.zipIdx_cons, List.foldl_cons, ih off (k + 1) _ (by simp; omega)]
    apply List.ext_getElem?
    intro j
    have hl1 : off + (k + 1) + vs.length ≤ (cs.setIfInBounds (off + k) v).toList.length := by simp; omega
    have hl2 : off + k + (v :: vs).length ≤ cs.toList.length := by simp; omega
    rw [splice_get hl1, splice_get hl2]
    simp only [List.length_cons, Array.toList_setIfInBounds]
    by_cases e : j = off + k
    · subst e
      rw [if_neg (by omega), if_pos (by omega), List.getElem?_set, if_pos rfl]
      simp; omega
    · by_cases h2 : off + (k + 1) ≤ j ∧ j < off + (k + 1) + vs.length
      · rw [if_pos h2, if_pos (by omega)]
        rw [show j - (off + k) = (j - (off + (k + 1))) + 1 by omega]; simp
      · rw [if_neg h2, if_neg (by omega), List.getElem?_set, if_neg (by omega)]

def aeCells : AE → List AS
  | .s y => [y]
  | .agg ys => ys

theorem aeCells_den {E : Env} {x : AE} {v : Value} {w : World} (h : x.den E v w) : Each (fun (x : AS) u => x.den E u w) (aeCells x) v.cells.toList := by
  cases x with
  | s y =>
    have h1 := AS.den_one (show y.den E v w from h)
    have : v.cells = #[v] := by cases v <;> first | rfl | (simp [Value.oneCell'] at h1)
    rw [this]
    exact .cons h .nil
  | agg ys => obtain ⟨vs, rfl, he⟩ := h; exact he

def afill (place : Nat → Option (Nat × Nat)) : List AS → List (Nat × AE) → Option (List AS)
  | cs, [] => some cs
  | cs, (i, x) :: r => match place i with
    | none => none
    | some (off, size) => if (aeCells x).length = size ∧ off + size ≤ cs.length then afill place (splice cs off (aeCells x)) r else none

theorem afill_sound {E : Env} {w : World} {place : Nat → Option (Nat × Nat)} : ∀ (ps : List (Nat × AE)) (qs : List (Nat × Value)) (cs : List AS) (vs : Array Value) {r : List AS},
    afill place cs ps = some r → Each (fun (p : Nat × AE) (q : Nat × Value) => p.1 = q.1 ∧ p.2.den E q.2 w) ps qs → Each (fun (x : AS) u => x.den E u w) cs vs.toList →
    ∃ us, Instr.fill place vs qs = some us ∧ Each (fun (x : AS) u => x.den E u w) r us.toList
  | [], qs, cs, vs, r, h, hq, hc => by cases hq; cases h; exact ⟨vs, rfl, hc⟩
  | (i, x) :: ps, qs, cs, vs, r, h, hq, hc => by
    cases hq with
    | cons hq1 hq2 =>
      rename_i q qs
      obtain ⟨j, v⟩ := q
      obtain ⟨rfl, hd⟩ := hq1
      simp only [afill] at h
      split at h
      · cases h
      · rename_i off size hp
        split at h
        · rename_i hle
          have hcells := aeCells_den hd
          have hl1 : v.cells.size = size := by have := hcells.length; simp at this; omega
          have hl2 : cs.length = vs.size := by simpa using hc.length
          have hfold : ((v.cells.zipIdx.foldl (fun (cs : Array Value) (p : Value × Nat) => cs.setIfInBounds (off + p.2) p.1) vs)).toList = splice vs.toList off v.cells.toList := by
            have := foldl_set v.cells.toList off 0 vs (by simp; omega)
            rw [← Array.foldl_toList, Array.toList_zipIdx]
            simpa using this
          have hnext := afill_sound ps qs (splice cs off (aeCells x)) (v.cells.zipIdx.foldl (fun (cs : Array Value) (p : Value × Nat) => cs.setIfInBounds (off + p.2) p.1) vs) h hq2 (by rw [hfold]; exact hc.splice hcells off)
          obtain ⟨us, h1, h2⟩ := hnext
          refine ⟨us, ?_, h2⟩
          simp only [Instr.fill, hp]
          rw [if_neg (by simp only [ne_eq, Bool.or_eq_true, decide_eq_true_eq]; omega)]
          exact h1
        · cases h

def mapO {α β : Type} (f : α → Option β) : List α → Option (List β)
  | [] => some []
  | x :: r => match f x, mapO f r with
    | some y, some ys => some (y :: ys)
    | _, _ => none

theorem mapO_each {α β : Type} {f : α → Option β} : ∀ {xs : List α} {ys : List β}, mapO f xs = some ys → Each (fun y x => f x = some y) ys xs
  | [], ys, h => by cases h; exact .nil
  | x :: xs, ys, h => by
    simp only [mapO] at h
    split at h
    · rename_i y ys' e1 e2; cases h; exact .cons e1 (mapO_each e2)
    · cases h

def constAS : Value → AS
  | .float k b => .c (.f k (canon k b))
  | .int k n => .c (.i k n)
  | .bool b => .c (.b b)
  | v => .c (.lit v)
theorem constAS_den {E : Env} {w : World} {v : Value} (h : v.oneCell' = true) : (constAS v).den E v w := by
  cases v <;> first | exact ⟨_, rfl, rfl⟩ | exact rfl | exact ⟨rfl, h⟩
theorem constAS_each {E : Env} {w : World} : ∀ {vs : List Value}, (∀ v ∈ vs, v.oneCell' = true) → Each (fun (x : AS) u => x.den E u w) (vs.map constAS) vs
  | [], _ => .nil
  | v :: r, h => .cons (constAS_den (h v (by simp))) (constAS_each fun u hu => h u (by simp [hu]))

def zeroCells (P : Program) (t : TypeId) : Option (List AS) :=
  match (P.info? t).bind (·.zero) with
  | some z => if z.cells.toList.all (·.oneCell') then some (z.cells.toList.map constAS) else none
  | none => none

theorem zeroCells_run {P : Program} {t : TypeId} {cs : List AS} (h : zeroCells P t = some cs) (E : Env) (w : World) :
    ∃ z, (zeroValue t).run P w = .ok z w ∧ Each (fun (x : AS) u => x.den E u w) cs z.cells.toList := by
  unfold zeroCells at h
  split at h
  · rename_i z e
    split at h
    · rename_i hall
      cases h
      obtain ⟨i, hi, hz⟩ := Option.bind_eq_some_iff.1 e
      refine ⟨z, by simp [zeroValue, typeInfo, hi, hz], constAS_each fun v hv => ?_⟩
      exact List.all_eq_true.1 hall v hv
    · cases h
  · cases h

end Go.Proofs.Ytkmijohkblmajaa
