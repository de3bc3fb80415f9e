/- The operations that only look: what they yield, abstractly, and that they yield it. -/
import Derived.Test.YtkmijohkblmajaaLibA2
import Derived.Test.YtkmijohkblmajaaLibC3
namespace Go.Proofs.Ytkmijohkblmajaa
open Go Go.RowKit

def absCells (P : Program) (t : TypeId) (cells : List AS) (off : Nat) : Option AE :=
  match isRowT P t, sizeT P t with
  | some true, some n => if off + n ≤ cells.length then some (.agg ((cells.drop off).take n)) else none
  | some false, _ => (cells[off]?).map .s
  | _, _ => none

def absAgg (P : Program) (t : TypeId) (cells : List AS) (off : Nat) : Option AE := absCells P t cells off

def absVal (P : Program) (h : List AObj) (ev : Operand → Option AE) : Op → Option AE
  | .move x | .assign x => ev x
  | .load t p => match ev p with
    | some (.s (.ptr id off)) => (h[id]?).bind fun o => absCells P t o.cells off
    | some (.s (.pref cs)) => absCells P t (cs.map .c) 0
    | some (.s (.pix id off n B z)) => (h[id]?).bind fun o => (mapO (fun j => absCells P t o.cells (off + j * z)) (List.range B)).bind (selAE n 0)
    | _ => none
  | .nilCheck x => match ev x with
    | some (.s (.ptr id off)) => some (.s (.ptr id off))
    | some (.s (.pref cs)) => some (.s (.pref cs))
    | _ => none
  | .binOp op t x y _ => match ev x, ev y with
    | some a, some b => absBin P op t a b
    | _, _ => none
  | .unOp op _ x => match op, (ev x).bind AE.bool?, (ev x).bind AE.float? with
    | .not, some (β, s), _ => some (mkBool (!β) s)
    | .neg, _, some (k, a) => some (mkF k (fneg k a))
    | _, _, _ => none
  | .convert src dst x => match P.underlying src, P.underlying dst, (ev x).bind AE.float?, (ev x).bind AE.int? with
    | some _, some (.float .f64), some (.f32, a), _ => some (.s (.c (.g (fwide a))))
    | some _, some (.float .f32), some (.f32, a), _ => some (mkF .f32 a)
    | some _, some (.float .f64), some (.f64, a), _ => some (mkF .f64 a)
    | some _, some (.float .f32), some (.f64, _), _ => match ev x with
      | some (.s (.c (.g a))) => some (mkF .f32 (fnarrow a))
      | _ => none
    | some _, some (.float k), _, some (_, n, _) => some (mkF k (k.nearest n))
    | some _, some (.int k), _, some (_, n, s) => some (mkInt k (k.wrap n) s)
    | _, _, _, _ => none
  | .fieldAddr t p f => match ev p, P.underlying t with
    | some (.s (.ptr id off)), some (.struct fs) => match fs[f]? with
      | some fd => match sizeT P fd.type with
        | some 0 => none
        | some (_ + 1) => some (.s (.ptr id (off + fd.offset)))
        | none => none
      | none => none
    | _, _ => none
  | .field t x f => match ev x, P.underlying t with
    | some (.agg cs), some (.struct fs) => match fs[f]? with
      | some fd => absCells P fd.type cs fd.offset
      | none => none
    | _, _ => none
  | .indexAddr t p i => match ev p, P.underlying t, ev i with
    | some (.s (.ptr id off)), some (.array len elem), some (.s (.c (.ix n B))) => match sizeT P elem with
      | some z => if B ≤ len then some (.s (.pix id off n B z)) else none
      | none => none
    | some (.s (.slc id off len)), some (.slice elem), some (.s (.c (.ix n B))) => match sizeT P elem with
      | some z => if B ≤ len then some (.s (.pix id off n B z)) else none
      | none => none
    | _, _, _ => match ev p, P.underlying t, (ev i).bind AE.int? with
    | some (.s (.ptr id off)), some (.array len elem), some (_, n, _) => match sizeT P elem with
      | some z => if 0 ≤ n ∧ n < len then some (.s (.ptr id (off + n.toNat * z))) else none
      | none => none
    | some (.s (.slc id off len)), some (.slice elem), some (_, n, _) => match sizeT P elem with
      | some z => if 0 ≤ n ∧ n < len then some (.s (.ptr id (off + n.toNat * z))) else none
      | none => none
    | _, _, _ => none
  | .index t x i => match ev x, P.underlying t, ev i with
    | some (.agg cs), some (.array len elem), some (.s (.c (.ix n B))) => match sizeT P elem with
      | some z => if B ≤ len then (mapO (fun j => absCells P elem cs (j * z)) (List.range B)).bind (selAE n 0) else none
      | none => none
    | _, _, _ => match ev x, P.underlying t, (ev i).bind AE.int? with
    | some (.agg cs), some (.array len elem), some (_, n, _) => match sizeT P elem with
      | some z => if 0 ≤ n ∧ n < len then absCells P elem cs (n.toNat * z) else none
      | none => none
    | _, _, _ => none
  | .slice t x none none none => match ev x, P.underlying t with
    | some (.s (.ptr id off)), some (.array n elem) => match sizeT P elem with
      | some _ => some (.s (.slc id off n))
      | none => none
    | _, _ => none
  | .build t parts => match mapO (fun p : Nat × Operand => (ev p.2).map fun x => (p.1, x)) parts.toList, zeroCells P t, P.underlying t with
    | some ps, some z, some (.struct fs) => match mapO (fun f : Field => (sizeT P f.type).map fun s => (f.offset, s)) fs.toList with
      | some pl => (afill (fun i => pl[i]?) z ps).map .agg
      | none => none
    | some ps, some z, some (.array _ elem) => match sizeT P elem with
      | some size => (afill (fun i => some (i * size, size)) z ps).map .agg
      | none => none
    | _, _, _ => none
  | .makeFunc fn a b => if a.size = 0 ∧ b.size = 0 then some (.s (.c (.lit (.func fn #[] #[])))) else none
  | .call { callee := .builtin .len, args := as, argTypes := ts } => match as.toList, ts.toList with
    | [x], [t] => match ev x, P.underlying t with
      | some (.s (.slc _ _ len)), some (.slice _) => some (mkInt .i64 len true)
      | some (.s (.sref _ len)), some (.slice _) => some (mkInt .i64 len true)
      | some (.s (.c (.lit (.slice none 0 0)))), some (.slice _) => some (mkInt .i64 0 true)
      | _, _ => none
    | _, _ => none
  | _ => none

theorem mapO_len {α β : Type} {f : α → Option β} : ∀ {xs : List α} {ys : List β}, mapO f xs = some ys → ys.length = xs.length
  | [], ys, h => by cases h; rfl
  | x :: xs, ys, h => by
    simp only [mapO] at h
    split at h
    · rename_i y ys' e1 e2; cases h; simp [mapO_len e2]
    · cases h
theorem mapO_get {α β : Type} {f : α → Option β} : ∀ {xs : List α} {ys : List β}, mapO f xs = some ys → ∀ {i : Nat} {x : α}, xs[i]? = some x → ∃ y, ys[i]? = some y ∧ f x = some y
  | [], ys, h, i, x, hx => by simp at hx
  | x :: xs, ys, h, i, x', hx => by
    simp only [mapO] at h
    split at h
    · rename_i y ys' e1 e2
      cases h
      cases i with
      | zero => simp at hx; subst hx; exact ⟨y, rfl, e1⟩
      | succ i => simp at hx; obtain ⟨y', h1, h2⟩ := mapO_get e2 hx; exact ⟨y', by simpa using h1, h2⟩
    · cases h
theorem mapO_range {β : Type} {f : Nat → Option β} {B n : Nat} {ys : List β} (h : mapO f (List.range B) = some ys) (hn : n < B) : ∃ y, ys[n]? = some y ∧ f n = some y :=
  mapO_get h (by rw [List.getElem?_range hn])
theorem mapO_range_len {β : Type} {f : Nat → Option β} {B : Nat} {ys : List β} (h : mapO f (List.range B) = some ys) : 0 + ys.length = B := by
  rw [mapO_len h]; simp

theorem isRowT_spec {P : Program} {t : TypeId} {b : Bool} (h : isRowT P t = some b) : ∃ d, P.underlying t = some d ∧ d.isRow = b := by
  unfold isRowT at h
  cases hu : P.underlying t with
  | none => simp [hu] at h
  | some d => simp [hu] at h; exact ⟨d, rfl, h⟩

theorem run_isAgg_of {P : Program} {t : TypeId} {d : TypeDesc} {b : Bool} (hu : P.underlying t = some d) (hb : d.isRow = b) (w : World) : (isAgg t).run P w = .ok b w := by
  unfold isAgg
  rw [Sem.run_bind, run_underlying hu w]
  cases d <;> simp_all [TypeDesc.isRow]

theorem run_sizeOf_of {P : Program} {t : TypeId} {n : Nat} (h : sizeT P t = some n) (w : World) : (sizeOf t).run P w = .ok n w := by
  unfold sizeT at h
  cases hq : P.info? t with
  | none => simp [hq] at h
  | some i => simp [hq] at h; subst h; simp [sizeOf, typeInfo, hq]

theorem rangeAt_sub {w : World} {b o : Nat} {vs : List Value} (h : w.rangeAt b o vs) (off n : Nat) : w.rangeAt b (o + off) ((vs.drop off).take n) := fun j v hj => by
  rw [List.getElem?_take] at hj
  split at hj
  · rw [List.getElem?_drop] at hj
    have := h (off + j) v hj
    rwa [← Nat.add_assoc] at this
  · cases hj

theorem absCells_load {P : Program} {E : Env} {w : World} {t : TypeId} {cells : List AS} {off b o : Nat} {vs : List Value} {r : AE} (h : absCells P t cells off = some r)
    (hr : w.rangeAt b o vs) (he : Each (fun x u => x.den E u w) cells vs) : ∃ u, (loadVar t ⟨b, o + off, none⟩).run P w = .ok u w ∧ r.den E u w := by
  unfold absCells at h
  split at h
  · rename_i n e1 e2
    split at h
    · rename_i hle
      cases h
      obtain ⟨d, hu, hd⟩ := isRowT_spec e1
      have hl := he.length
      have hlen : ((vs.drop off).take n).length = n := by simp; omega
      refine ⟨_, run_loadVar_mid w b (o + off) t ((vs.drop off).take n) d (rangeAt_sub hr off n) hu hd (by rw [hlen]; exact e2), _, rfl, (he.drop off).take n⟩
    · cases h
  · rename_i e1
    obtain ⟨d, hu, hd⟩ := isRowT_spec e1
    cases hc : cells[off]? with
    | none => simp [hc] at h
    | some x =>
      simp [hc] at h; subst h
      obtain ⟨v, hv, hden⟩ := he.get hc
      refine ⟨v, ?_, hden⟩
      simp [loadVar, Sem.run_bind, run_isAgg_of hu hd w, hr off v hv]
  · cases h

theorem absCells_part {P : Program} {E : Env} {w : World} {t : TypeId} {cells : List AS} {off : Nat} {vs : List Value} {r : AE} (h : absCells P t cells off = some r)
    (he : Each (fun x u => x.den E u w) cells vs) : ∃ u, (part t vs.toArray off).run P w = .ok u w ∧ r.den E u w := by
  unfold absCells at h
  split at h
  · rename_i n e1 e2
    split at h
    · rename_i hle
      cases h
      obtain ⟨d, hu, hd⟩ := isRowT_spec e1
      refine ⟨.agg ((vs.drop off).take n).toArray, ?_, _, rfl, (he.drop off).take n⟩
      simp [part, Sem.run_bind, run_isAgg_of hu hd w, run_sizeOf_of e2 w]
    · cases h
  · rename_i e1
    obtain ⟨d, hu, hd⟩ := isRowT_spec e1
    cases hc : cells[off]? with
    | none => simp [hc] at h
    | some x =>
      simp [hc] at h; subst h
      obtain ⟨v, hv, hden⟩ := he.get hc
      refine ⟨v, ?_, hden⟩
      simp [part, Sem.run_bind, run_isAgg_of hu hd w, hv]
  · cases h

theorem ptr_den {E : Env} {w : World} {id off : Nat} {v : Value} (hd : (AS.ptr id off).den E v w) :
    v = .pointer (some ⟨(E.at_ id).1, (E.at_ id).2 + off, none⟩) := hd.2

theorem each_c {E : Env} {w : World} {cs : List AC} {vs : List Value} (h : Each AC.den cs vs) : Each (fun (x : AS) u => x.den E u w) (cs.map .c) vs := by
  induction h with
  | nil => exact .nil
  | cons h _ ih => exact .cons h ih

/-- THE LAW of the operations that only look. -/
theorem absVal_sound {P : Program} {E : Env} {B0 : Nat} {T : List Nat} {hp : List AObj} {w : World} {ev : Operand → Option AE} {ρ : Operand → Value} {o : Oper} {r : AE}
    (h : absVal P hp ev o.op = some r) (hev : ∀ x ∈ o.op.operands.toList, ∀ ae, ev x = some ae → ae.den E (ρ x) w) (hh : HDen E B0 T hp w) :
    ∃ u w', (execOp ρ o).run P w = .ok (.value u) w' ∧ r.den E u w' ∧ drawnOn w w' := by
  obtain ⟨dst, op, type, pos, after, guard⟩ := o
  cases op <;> (try (simp [absVal] at h; done))
  case move x => exact ⟨ρ x, w, rfl, hev x (by simp [Op.operands]) r h, .inl rfl⟩
  case assign x => exact ⟨ρ x, w, rfl, hev x (by simp [Op.operands]) r h, .inl rfl⟩
  case load t p =>
    simp only [absVal] at h
    have hp' := hev p (by simp [Op.operands])
    split at h
    · rename_i id off e
      have hd := hp' _ e
      cases ho : hp[id]? with
      | none => simp [ho] at h
      | some ob =>
        simp only [ho, Option.bind_some] at h
        obtain ⟨vs, h1, _, h3, _⟩ := hh.obj id ob ho hd.1
        obtain ⟨u, hu, hden⟩ := absCells_load h h1 h3
        refine ⟨u, w, ?_, hden, .inl rfl⟩
        simp only [execOp, Sem.run_bind, Instr.loadAt]
        rw [show ρ p = _ from hd.2]
        simp [Instr.sureAddr, hu]
    · rename_i cs e
      obtain ⟨b, o, vs, hv, _, _, h1, h3⟩ := hp' _ e
      obtain ⟨u, hu, hden⟩ := absCells_load (off := 0) h h1 (each_c (E := E) (w := w) h3)
      refine ⟨u, w, ?_, hden, .inl rfl⟩
      simp only [execOp, Sem.run_bind, Instr.loadAt]
      rw [hv]
      simp only [Nat.add_zero] at hu
      simp [Instr.sureAddr, hu]
    · rename_i id off n B z e
      have hd := hp' _ e
      obtain ⟨ob, ho, h⟩ := Option.bind_eq_some_iff.1 h
      obtain ⟨xs, hx1, hx2⟩ := Option.bind_eq_some_iff.1 h
      obtain ⟨vs, h1, _, h3, _⟩ := hh.obj id ob ho hd.1
      obtain ⟨x, hx3, hx4⟩ := mapO_range hx1 hd.2.1
      obtain ⟨u, hu, hden⟩ := absCells_load hx4 h1 h3
      refine ⟨u, w, ?_, selAE_den hx2 (fun x' hx' => by rw [Nat.sub_zero, hx3] at hx'; cases hx'; exact hden) (Nat.zero_le _) (by rw [mapO_range_len hx1]; simpa using hd.2.1), .inl rfl⟩
      simp only [execOp, Sem.run_bind, Instr.loadAt]
      rw [show ρ p = _ from hd.2.2]
      simp [Instr.sureAddr, hu]
    · cases h
  case nilCheck x =>
    simp only [absVal] at h
    have hx' := hev x (by simp [Op.operands])
    split at h
    · rename_i id off e
      cases h
      have hd := hx' _ e
      refine ⟨ρ x, w, ?_, hd, .inl rfl⟩
      simp only [execOp]; rw [show ρ x = _ from hd.2]; rfl
    · rename_i cs e
      cases h
      have hd := hx' _ e
      refine ⟨ρ x, w, ?_, hd, .inl rfl⟩
      obtain ⟨b, o, vs, hv, _⟩ := hd
      simp only [execOp]; rw [hv]; rfl
    · cases h
  case binOp op t x y yt =>
    simp only [absVal] at h
    split at h
    · rename_i a b e1 e2
      obtain ⟨z, w', hr, hd, hw⟩ := absBin_sound h (hev x (by simp [Op.operands]) _ e1) (hev y (by simp [Op.operands]) _ e2) x y
      refine ⟨z, w', ?_, hd, hw⟩
      simp only [execOp]
      rw [Sem.run_bind, hr]; rfl
    · cases h
  case unOp op t x =>
    simp only [absVal] at h
    have hx' := hev x (by simp [Op.operands])
    split at h
    · rename_i β s e
      cases h
      obtain ⟨ae, e1, e2⟩ := Option.bind_eq_some_iff.1 e
      have := AE.bool?_den e2 (hx' _ e1)
      exact ⟨.bool (!β), w, by simp [execOp, this, Op.unary], mkBool_den, .inl rfl⟩
    · rename_i k a e
      cases h
      obtain ⟨ae, e1, e2⟩ := Option.bind_eq_some_iff.1 e
      obtain ⟨b, hb, hc⟩ := AE.float?_den e2 (hx' _ e1)
      exact ⟨.float k (Op.negFloat k b), w, by simp [execOp, hb, Op.unary], mkF_den (by rw [fneg_canon, hc]), .inl rfl⟩
    · cases h
  case convert src dst' x =>
    simp only [absVal] at h
    have hx' := hev x (by simp [Op.operands])
    have hf : ∀ k a, (ev x).bind AE.float? = some (k, a) → ∃ b, ρ x = .float k b ∧ canon k b = a := fun k a e => by
      obtain ⟨ae, e1, e2⟩ := Option.bind_eq_some_iff.1 e
      exact AE.float?_den e2 (hx' _ e1)
    have hi : ∀ k n s, (ev x).bind AE.int? = some (k, n, s) → ρ x = .int k n := fun k n s e => by
      obtain ⟨ae, e1, e2⟩ := Option.bind_eq_some_iff.1 e
      exact AE.int?_den e2 (hx' _ e1)
    split at h
    · rename_i d0 a e1 e2 e3
      cases h
      obtain ⟨b, hb, hc⟩ := hf _ _ e3
      obtain ⟨b', w', hr, hc', hw⟩ := run_wide (P := P) (x := b) (w := w)
      refine ⟨_, w', ?_, ⟨b', rfl, by rw [hc', hc], wide_gOK a⟩, hw⟩
      simp only [execOp, convert, Sem.run_bind, run_underlying e1, run_underlying e2, Result.andThen_ok, hb]
      cases d0 <;> simp [hr]
    · rename_i d0 a e1 e2 e3
      cases h
      obtain ⟨b, hb, hc⟩ := hf _ _ e3
      refine ⟨.float .f32 b, w, ?_, mkF_den hc, .inl rfl⟩
      simp only [execOp, convert, Sem.run_bind, run_underlying e1, run_underlying e2, Result.andThen_ok, hb]
      cases d0 <;> simp [Conv.floatToFloat]
    · rename_i d0 a e1 e2 e3
      cases h
      obtain ⟨b, hb, hc⟩ := hf _ _ e3
      refine ⟨.float .f64 b, w, ?_, mkF_den hc, .inl rfl⟩
      simp only [execOp, convert, Sem.run_bind, run_underlying e1, run_underlying e2, Result.andThen_ok, hb]
      cases d0 <;> simp [Conv.floatToFloat]
    · rename_i d0 a e1 e2 e3
      split at h
      · rename_i a' e4
        cases h
        obtain ⟨b, hb, hc, hok⟩ := hx' _ e4
        obtain ⟨b', w', hr, hc', hw⟩ := run_narrow (P := P) (x := b) (w := w) (by rw [hc]; exact gOK_narrow hok)
        refine ⟨_, w', ?_, mkF_den (by rw [hc', hc]), hw⟩
        simp only [execOp, convert, Sem.run_bind, run_underlying e1, run_underlying e2, Result.andThen_ok, hb]
        cases d0 <;> simp [hr]
      · cases h
    · rename_i d0 k k' n s e1 e2 e3 _ _ _ _
      cases h
      have hb := hi _ _ _ e3
      refine ⟨.float k (k.nearest n), w, ?_, mkF_den (nearest_canon k n), .inl rfl⟩
      simp only [execOp, convert, Sem.run_bind, run_underlying e1, run_underlying e2, Result.andThen_ok, hb]
      cases d0 <;> simp [Conv.intToFloat]
    · rename_i d0 k k' n s e1 e2 e3
      cases h
      have hb := hi _ _ _ e3
      refine ⟨.int k (k.wrap n), w, ?_, mkInt_den, .inl rfl⟩
      simp only [execOp, convert, Sem.run_bind, run_underlying e1, run_underlying e2, Result.andThen_ok, hb]
      cases d0 <;> simp [Conv.intToInt]
    · cases h
  case fieldAddr t p f =>
    simp only [absVal] at h
    have hp' := hev p (by simp [Op.operands])
    split at h
    · rename_i id off fs e1 e2
      split at h
      · rename_i fd e3
        split at h
        · cases h
        · rename_i z e4
          cases h
          have hd := hp' _ e1
          refine ⟨.pointer (some ⟨(E.at_ id).1, (E.at_ id).2 + (off + fd.offset), none⟩), w, ?_, ⟨hd.1, rfl⟩, .inl rfl⟩
          simp only [execOp, Instr.fieldAt, Sem.run_bind, run_underlying e2, Result.andThen_ok, e3, Sem.run_pure]
          rw [show ρ p = _ from hd.2]
          simp [Instr.sureAddr, fieldPlace, Sem.run_bind, run_sizeOf_of e4, Addr.add_mid, Nat.add_assoc]
        · cases h
      · cases h
    · cases h
  case field t x f =>
    simp only [absVal] at h
    have hx' := hev x (by simp [Op.operands])
    split at h
    · rename_i cs fs e1 e2
      split at h
      · rename_i fd e3
        obtain ⟨vs, hv, he⟩ := hx' _ e1
        obtain ⟨u, hu, hden⟩ := absCells_part h he
        refine ⟨u, w, ?_, hden, .inl rfl⟩
        simp only [execOp, Instr.field, Sem.run_bind, run_underlying e2, Result.andThen_ok, e3]
        rw [hv]
        simp [asAgg, hu]
      · cases h
    · cases h
  case indexAddr t p i =>
    simp only [absVal] at h
    have hp' := hev p (by simp [Op.operands])
    have hi : ∀ k n s, (ev i).bind AE.int? = some (k, n, s) → ρ i = .int k n := fun k n s e => by
      obtain ⟨ae, e1, e2⟩ := Option.bind_eq_some_iff.1 e
      exact AE.int?_den e2 (hev i (by simp [Op.operands]) _ e1)
    split at h
    · rename_i id off len elem n B e1 e2 e3
      split at h
      · rename_i z e4
        split at h
        · rename_i hb
          cases h
          have hd := hp' _ e1
          obtain ⟨hin, hlt⟩ := hev i (by simp [Op.operands]) _ e3
          have hbb : (0 : Int) ≤ (n : Int) ∧ (n : Int) < (len : Int) := by omega
          refine ⟨.pointer (some ⟨(E.at_ id).1, (E.at_ id).2 + (off + n * z), none⟩), w, ?_, ⟨hd.1, hlt, rfl⟩, .inl rfl⟩
          simp only [execOp, Instr.indexAt, hin]
          rw [show ρ p = _ from hd.2]
          simp [asIntOf, Sem.run_bind, run_underlying e2, Instr.sureAddr, hbb, run_sizeOf_of e4, Addr.add_mid, Nat.add_assoc]
          intro hc; exact absurd hc (by omega)
        · cases h
      · cases h
    · rename_i id off len elem n B e1 e2 e3
      split at h
      · rename_i z e4
        split at h
        · rename_i hb
          cases h
          obtain ⟨hx0, cap, hd⟩ := hp' _ e1
          obtain ⟨hin, hlt⟩ := hev i (by simp [Op.operands]) _ e3
          have hbb : (0 : Int) ≤ (n : Int) ∧ (n : Int) < (len : Int) := by omega
          refine ⟨.pointer (some ⟨(E.at_ id).1, (E.at_ id).2 + (off + n * z), none⟩), w, ?_, ⟨hx0, hlt, rfl⟩, .inl rfl⟩
          simp only [execOp, Instr.indexAt, hin]
          rw [show ρ p = _ from hd]
          simp [asIntOf, Sem.run_bind, run_underlying e2, hbb, run_sizeOf_of e4, Addr.add_mid, Nat.add_assoc]
          intro hc; exact absurd hc (by omega)
        · cases h
      · cases h
    split at h
    · rename_i id off len elem k n s e1 e2 e3
      split at h
      · rename_i z e4
        split at h
        · rename_i hb
          cases h
          have hd := hp' _ e1
          refine ⟨.pointer (some ⟨(E.at_ id).1, (E.at_ id).2 + (off + n.toNat * z), none⟩), w, ?_, ⟨hd.1, rfl⟩, .inl rfl⟩
          simp only [execOp, Instr.indexAt, hi _ _ _ e3]
          rw [show ρ p = _ from hd.2]
          simp [asIntOf, Sem.run_bind, run_underlying e2, Instr.sureAddr, hb, run_sizeOf_of e4, Addr.add_mid, Nat.add_assoc]
        · cases h
      · cases h
    · rename_i id off len elem k n s e1 e2 e3
      split at h
      · rename_i z e4
        split at h
        · rename_i hb
          cases h
          obtain ⟨hlt, cap, hd⟩ := hp' _ e1
          refine ⟨.pointer (some ⟨(E.at_ id).1, (E.at_ id).2 + (off + n.toNat * z), none⟩), w, ?_, ⟨hlt, rfl⟩, .inl rfl⟩
          simp only [execOp, Instr.indexAt, hi _ _ _ e3]
          rw [show ρ p = _ from hd]
          simp [asIntOf, Sem.run_bind, run_underlying e2, hb, run_sizeOf_of e4, Addr.add_mid, Nat.add_assoc]
        · cases h
      · cases h
    · cases h
  case index t x i =>
    simp only [absVal] at h
    have hx' := hev x (by simp [Op.operands])
    have hi : ∀ k n s, (ev i).bind AE.int? = some (k, n, s) → ρ i = .int k n := fun k n s e => by
      obtain ⟨ae, e1, e2⟩ := Option.bind_eq_some_iff.1 e
      exact AE.int?_den e2 (hev i (by simp [Op.operands]) _ e1)
    split at h
    · rename_i cs len elem n B e1 e2 e3
      split at h
      · rename_i z e4
        split at h
        · rename_i hb
          obtain ⟨xs, hx1, hx2⟩ := Option.bind_eq_some_iff.1 h
          obtain ⟨vs, hv, he⟩ := hx' _ e1
          obtain ⟨hin, hlt⟩ := hev i (by simp [Op.operands]) _ e3
          have hbb : (0 : Int) ≤ (n : Int) ∧ (n : Int) < (len : Int) := by omega
          obtain ⟨x3, hx3, hx4⟩ := mapO_range hx1 hlt
          obtain ⟨u, hu, hden⟩ := absCells_part hx4 he
          refine ⟨u, w, ?_, selAE_den hx2 (fun x' hx' => by rw [Nat.sub_zero, hx3] at hx'; cases hx'; exact hden) (Nat.zero_le _) (by rw [mapO_range_len hx1]; simpa using hlt), .inl rfl⟩
          simp only [execOp, Instr.index, hin]
          rw [hv]
          simp [asIntOf, Sem.run_bind, run_underlying e2, hbb, run_sizeOf_of e4, hu]
          intro hc; exact absurd hc (by omega)
        · cases h
      · cases h
    split at h
    · rename_i cs len elem k n s e1 e2 e3
      split at h
      · rename_i z e4
        split at h
        · rename_i hb
          obtain ⟨vs, hv, he⟩ := hx' _ e1
          obtain ⟨u, hu, hden⟩ := absCells_part h he
          refine ⟨u, w, ?_, hden, .inl rfl⟩
          simp only [execOp, Instr.index, hi _ _ _ e3]
          rw [hv]
          simp [asIntOf, Sem.run_bind, run_underlying e2, hb, run_sizeOf_of e4, hu]
        · cases h
      · cases h
    · cases h
  case slice t x lo hi' mx =>
    cases lo <;> cases hi' <;> cases mx <;> (try (simp [absVal] at h; done))
    simp only [absVal] at h
    have hx' := hev x (by simp [Op.operands])
    split at h
    · rename_i id off n elem e1 e2
      split at h
      · rename_i z e4
        cases h
        have hd := hx' _ e1
        refine ⟨.slice (some ⟨(E.at_ id).1, (E.at_ id).2 + off, none⟩) n n, w, ?_, ⟨hd.1, _, rfl⟩, .inl rfl⟩
        simp only [execOp, Instr.sliceAt, Sem.run_bind, run_underlying e2, Result.andThen_ok]
        rw [show ρ x = _ from hd.2]
        simp [Instr.sureAddr, Instr.sliceBounds, run_sizeOf_of e4, Addr.add]
      · cases h
    · cases h
  case build t parts =>
    simp only [absVal] at h
    have hparts : ∀ (l : List (Nat × Operand)) (ps : List (Nat × AE)), (∀ p ∈ l, p ∈ parts.toList) → mapO (fun p : Nat × Operand => (ev p.2).map fun x => (p.1, x)) l = some ps →
        Each (fun (p : Nat × AE) (q : Nat × Value) => p.1 = q.1 ∧ p.2.den E q.2 w) ps (l.map fun p => (p.1, ρ p.2)) := by
      intro l
      induction l with
      | nil => intro ps _ h; cases h; exact .nil
      | cons p l ih =>
        intro ps hl h
        simp only [mapO] at h
        split at h
        · rename_i y ys e1 e2
          cases h
          obtain ⟨x, hx, rfl⟩ := Option.map_eq_some_iff.1 e1
          refine .cons ⟨rfl, hev p.2 ?_ x hx⟩ (ih ys (fun q hq => hl q (by simp [hq])) e2)
          have hm := hl p (by simp)
          simp only [Op.operands, List.toList_toArray, List.mem_map]
          exact ⟨p, hm, rfl⟩
        · cases h
    split at h
    · rename_i ps z fs e1 e2 e3
      split at h
      · rename_i pl e4
        obtain ⟨cs, hcs, rfl⟩ := Option.map_eq_some_iff.1 h
        obtain ⟨zv, hz, hzd⟩ := zeroCells_run e2 E w
        obtain ⟨us, hus, hden⟩ := afill_sound ps _ z zv.cells hcs (hparts _ _ (fun _ h => h) e1) hzd
        have hpl : (fs.mapM fun f => do pure (f.offset, ← sizeOf f.type) : Sem (Array (Nat × Nat))).run P w = .ok pl.toArray w := by
          rw [Array.mapM_eq_mapM_toList, Sem.run_map]
          have key : ∀ (l : List Field) (pl : List (Nat × Nat)), mapO (fun f : Field => (sizeT P f.type).map fun s => (f.offset, s)) l = some pl → (l.mapM fun f => do pure (f.offset, ← sizeOf f.type) : Sem (List (Nat × Nat))).run P w = .ok pl w := by
            intro l
            induction l with
            | nil => intro pl h; cases h; rfl
            | cons f l ih =>
              intro pl h
              simp only [mapO] at h
              split at h
              · rename_i y ys e1 e2
                cases h
                obtain ⟨s, hs, rfl⟩ := Option.map_eq_some_iff.1 e1
                rw [List.mapM_cons, Sem.run_bind, Sem.run_bind, run_sizeOf_of hs, Result.andThen_ok, Sem.run_pure, Result.andThen_ok, Sem.run_bind, ih ys e2, Result.andThen_ok, Sem.run_pure]
              · cases h
          rw [key _ _ e4]; rfl
        refine ⟨.agg us, w, ?_, ⟨us.toList, by simp, hden⟩, .inl rfl⟩
        simp only [execOp, Instr.build, Sem.run_bind, hz, Result.andThen_ok, run_underlying e3, hpl]
        simp [hus]
      · cases h
    · rename_i ps z n elem e1 e2 e3
      split at h
      · rename_i size e4
        obtain ⟨cs, hcs, rfl⟩ := Option.map_eq_some_iff.1 h
        obtain ⟨zv, hz, hzd⟩ := zeroCells_run e2 E w
        obtain ⟨us, hus, hden⟩ := afill_sound ps _ z zv.cells hcs (hparts _ _ (fun _ h => h) e1) hzd
        refine ⟨.agg us, w, ?_, ⟨us.toList, by simp, hden⟩, .inl rfl⟩
        simp only [execOp, Instr.build, Sem.run_bind, hz, Result.andThen_ok, run_underlying e3, run_sizeOf_of e4]
        simp [hus]
      · cases h
    · cases h
  case makeFunc fn a b =>
    simp only [absVal] at h
    split at h
    · rename_i hz
      cases h
      have ha : a = #[] := Array.eq_empty_of_size_eq_zero hz.1
      have hb : b = #[] := Array.eq_empty_of_size_eq_zero hz.2
      subst ha hb
      exact ⟨.func fn #[] #[], w, by simp [execOp, Instr.makeFunc], ⟨rfl, rfl⟩, .inl rfl⟩
    · cases h
  case call c =>
    obtain ⟨callee, as, ts⟩ := c
    cases callee <;> (try (simp [absVal] at h; done))
    rename_i bi
    cases bi <;> (try (simp [absVal] at h; done))
    simp only [absVal] at h
    split at h
    · rename_i x t ea et
      have ea' : as = #[x] := by rw [← Array.toArray_toList (xs := as), ea]
      have et' : ts = #[t] := by rw [← Array.toArray_toList (xs := ts), et]
      subst ea' et'
      have hx' := hev x (by simp [Op.operands, Call.operands])
      split at h
      · rename_i id off len elem e1 e2
        cases h
        obtain ⟨_, cap, hd⟩ := hx' _ e1
        refine ⟨.int .i64 len, w, ?_, mkInt_den, .inl rfl⟩
        simp only [execOp, resolve, Sem.run_bind, Sem.run_pure, Result.andThen_ok]
        simp [invoke, builtin, Builtin.len_, Sem.run_bind, run_underlying e2]
        rw [show ρ x = _ from hd]
        simp [goInt]
      · rename_i cs len elem e1 e2
        cases h
        obtain ⟨b, o, vs, cap, hv, _⟩ := hx' _ e1
        refine ⟨.int .i64 len, w, ?_, mkInt_den, .inl rfl⟩
        simp only [execOp, resolve, Sem.run_bind, Sem.run_pure, Result.andThen_ok]
        simp [invoke, builtin, Builtin.len_, Sem.run_bind, run_underlying e2]
        rw [hv]
        simp [goInt]
      · rename_i elem e1 e2
        cases h
        obtain ⟨hv, _⟩ := hx' _ e1
        refine ⟨.int .i64 0, w, ?_, mkInt_den, .inl rfl⟩
        simp only [execOp, resolve, Sem.run_bind, Sem.run_pure, Result.andThen_ok]
        simp [invoke, builtin, Builtin.len_, Sem.run_bind, run_underlying e2]
        rw [hv]
        simp [goInt]
      · cases h
    · cases h

end Go.Proofs.Ytkmijohkblmajaa
