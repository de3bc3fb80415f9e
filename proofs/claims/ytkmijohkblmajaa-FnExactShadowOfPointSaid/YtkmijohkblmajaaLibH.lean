/- Memory that the function makes, and writes. -/
import Derived.Test.YtkmijohkblmajaaLibG
namespace Go.Proofs.Ytkmijohkblmajaa
open Go Go.RowKit

def Env.add (E : Env) (id k : Nat) : Env := { at_ := fun j => if j = id then (k, 0) else E.at_ j, ex := fun j => E.ex j ∨ j = id, M := fun b => E.M b ∨ b = k }

theorem Env.add_le {E : Env} {id k : Nat} {w : World} (hid : ¬ E.ex id) (hk : w.heap.size ≤ k) : E.Le (E.add id k) w :=
  ⟨fun _ h => .inl h, (fun i hi => if_neg (fun e => hid (by rw [← e]; exact hi))), fun b hb => hb.elim .inl (fun e => .inr (by rw [e]; exact hk))⟩

theorem alloc_below (w : World) (o : Obj) : Below w.heap.size w (w.alloc o) := (Below.refl _ _).alloc (Nat.le_refl _) o

theorem heap_alloc_new (w : World) (o : Obj) : (w.alloc o).heap[w.heap.size]? = some o := by
  show (w.heap.push o)[w.heap.size]? = some o
  rw [Array.getElem?_push, if_pos rfl]
theorem cell_alloc_new (w : World) (arr : Array Value) (ty : TypeId) (j : Nat) : (w.alloc (.cells arr ty)).cell? ⟨w.heap.size, j, none⟩ = arr[j]? := by
  unfold World.cell?
  simp only [heap_alloc_new, Option.isSome_none, Bool.false_eq_true, if_false]
theorem frozen_alloc_new (w : World) (arr : Array Value) (ty : TypeId) (j : Nat) : (w.alloc (.cells arr ty)).frozen? ⟨w.heap.size, j, none⟩ = false := by
  unfold World.frozen?
  simp only [heap_alloc_new]
  simp

theorem HDen.alloc {E : Env} {B0 : Nat} {T : List Nat} {h : List AObj} {w : World} (hh : HDen E B0 T h w) (hB : B0 ≤ w.heap.size) {id : Nat} {cells : List AS} (hid : ¬ E.ex id) (ho : h[id]? = some ⟨true, cells⟩)
    {arr : Array Value} (ty : TypeId) (he : Each (fun (x : AS) u => x.den E u w) cells arr.toList) : HDen (E.add id w.heap.size) B0 T h (w.alloc (.cells arr ty)) := by
  have hle := Env.add_le (w := w) hid (Nat.le_refl w.heap.size)
  have hb := alloc_below w (.cells arr ty)
  have hk : Kept E.M w (w.alloc (.cells arr ty)) := Kept.of_below hb
  refine ⟨?_, ?_, ?_, ?_⟩
  · rintro i (hi | rfl)
    · exact hh.len i hi
    · exact (List.getElem?_eq_some_iff.1 ho).1
  · intro i o hi hx
    by_cases e : i = id
    · subst e
      rw [ho] at hi; cases hi
      have ea : (E.add i w.heap.size).at_ i = (w.heap.size, 0) := if_pos rfl
      refine ⟨arr.toList, fun j v hj => ?_, ?_, he.mono fun _ _ h => AS.den_kept h hle hk, fun _ => ⟨fun j hj => ⟨?_, ?_⟩, .inr (by rw [ea]), .inl (by rw [ea]; exact hB)⟩, fun hc => by cases hc⟩
      · rw [ea]; rw [Nat.zero_add, cell_alloc_new]; simpa using hj
      · rw [ea]; simp
      · rw [ea]; rw [Nat.zero_add, cell_alloc_new]
        have : j < arr.size := by simpa using hj
        simp [this]
      · rw [ea]; exact frozen_alloc_new _ _ _ _
    · have hx : E.ex i := hx.resolve_right e
      obtain ⟨vs, h1, h2, h3, h4, h5⟩ := hh.obj i o hi hx
      have ea : (E.add id w.heap.size).at_ i = E.at_ i := if_neg e
      have hblk := hb.block _ h2
      refine ⟨vs, by rw [ea]; exact rangeAt_of_block hblk h1, by rw [ea]; simp; omega, h3.mono fun _ _ h => AS.den_kept h hle hk, fun hm => ⟨fun j hj => ?_, .inl (by rw [ea]; exact (h4 hm).2.1), by rw [ea]; exact (h4 hm).2.2⟩, fun hm => ?_⟩
      · rw [ea, World.cell?_of_block (w := w) (a := ⟨_, _, none⟩) hblk, World.frozen?_of_block (w := w) (a := ⟨_, _, none⟩) hblk]
        exact (h4 hm).1 j hj
      · rw [ea]; rintro (hc | hc)
        · exact h5 hm hc
        · omega
  · intro i j o hi hown hxi hxj hij
    by_cases ei : i = id
    · subst ei
      have hxj : E.ex j := hxj.resolve_right (fun e => hij e.symm)
      have ea : (E.add i w.heap.size).at_ i = (w.heap.size, 0) := if_pos rfl
      have eb : (E.add i w.heap.size).at_ j = E.at_ j := if_neg (fun e => hij e.symm)
      rw [ea, eb]
      have hlj := hh.len j hxj
      obtain ⟨vs, _, h2, _⟩ := hh.obj j h[j] (by simp [hlj]) hxj
      exact Nat.ne_of_lt h2
    · have hxi' : E.ex i := hxi.resolve_right ei
      clear hxi
      have ea : (E.add id w.heap.size).at_ i = E.at_ i := if_neg ei
      by_cases ej : j = id
      · subst ej
        have eb : (E.add j w.heap.size).at_ j = (w.heap.size, 0) := if_pos rfl
        rw [ea, eb]
        obtain ⟨vs, _, h2, _⟩ := hh.obj i o hi hxi'
        exact (Nat.ne_of_lt h2).symm
      · have hxj : E.ex j := hxj.resolve_right ej
        have eb : (E.add id w.heap.size).at_ j = E.at_ j := if_neg ej
        rw [ea, eb]
        exact hh.apart i j o hi hown hxi' hxj hij
  · rintro k (hk' | rfl)
    · obtain ⟨i, o, h1, h2, h3, h4⟩ := hh.M k hk'
      exact ⟨i, o, h1, .inl h2, h3, by rw [show (E.add id w.heap.size).at_ i = E.at_ i from if_neg (fun e => hid (by rw [← e]; exact h2))]; exact h4⟩
    · exact ⟨id, _, ho, .inr rfl, rfl, by rw [show (E.add id w.heap.size).at_ id = (w.heap.size, 0) from if_pos rfl]⟩

theorem setCells_heap (b : Nat) : ∀ (vs : List Value) (o : Nat) (w : World) (k : Nat), k ≠ b → (w.setCells b o vs).heap[k]? = w.heap[k]?
  | [], _, _, _, _ => rfl
  | v :: r, o, w, k, h => by rw [World.setCells, setCells_heap b r _ _ k h]; exact Below.heap_setCell _ _ _ _ h
theorem setCells_size (b : Nat) : ∀ (vs : List Value) (o : Nat) (w : World), (w.setCells b o vs).heap.size = w.heap.size
  | [], _, _ => rfl
  | v :: r, o, w => by rw [World.setCells, setCells_size b r]; simp [World.setCell]
theorem setCells_rest (b : Nat) : ∀ (vs : List Value) (o : Nat) (w : World), (w.setCells b o vs).os = w.os ∧ (w.setCells b o vs).tape = w.tape ∧ (w.setCells b o vs).output = w.output
  | [], _, _ => ⟨rfl, rfl, rfl⟩
  | v :: r, o, w => by rw [World.setCells]; exact setCells_rest b r _ _

theorem rangeAt_splice {w : World} {b o off : Nat} {vs us : List Value} (h : w.rangeAt b o vs) (hle : off + us.length ≤ vs.length) : (w.setCells b (o + off) us).rangeAt b o (splice vs off us) := by
  intro j v hj
  rw [splice_get hle] at hj
  split at hj
  · rename_i hr
    obtain ⟨h1, h2⟩ := hr
    have := World.cell?_setCells_in b us (o + off) w (fun i hi => by
      have hlt : off + i < vs.length := by omega
      have := h (off + i) vs[off + i] (by simp [hlt])
      rw [← Nat.add_assoc] at this
      rw [this]; rfl) (j - off) (by omega)
    rw [show o + off + (j - off) = o + j by omega] at this
    rw [this, ← hj, List.getElem?_eq_getElem]
  · rename_i hr
    rw [World.cell?_setCells_out b us (o + off) w ⟨b, o + j, none⟩ (fun _ _ => by
      show o + j < o + off ∨ o + off + us.length ≤ o + j
      omega)]
    exact h j v hj

theorem HDen.store {E : Env} {B0 : Nat} {T : List Nat} {h : List AObj} {w : World} (hh : HDen E B0 T h w) {id off : Nat} {cells : List AS} (hx : E.ex id) (ho : h[id]? = some ⟨true, cells⟩)
    {ys : List AS} {us : List Value} (hy : Each (fun (x : AS) u => x.den E u w) ys us) (hle : off + ys.length ≤ cells.length) :
    HDen E B0 T (h.set id ⟨true, splice cells off ys⟩) (w.setCells (E.at_ id).1 ((E.at_ id).2 + off) us) ∧ Kept E.M w (w.setCells (E.at_ id).1 ((E.at_ id).2 + off) us) ∧ w.there (E.at_ id).1 ((E.at_ id).2 + off) us.length ∧ (B0 ≤ (E.at_ id).1 ∨ (E.at_ id).1 ∈ T) := by
  obtain ⟨vs, h1, h2, h3, h4, _⟩ := hh.obj id _ ho hx
  obtain ⟨ht, hM, hT⟩ := h4 rfl
  have hul : us.length = ys.length := hy.length.symm
  have hvl : vs.length = cells.length := h3.length.symm
  have hk : Kept E.M w (w.setCells (E.at_ id).1 ((E.at_ id).2 + off) us) := ⟨by rw [setCells_size]; exact Nat.le_refl _, fun k _ hn => setCells_heap _ _ _ _ _ (fun e => hn (e ▸ hM))⟩
  have hden : ∀ (x : AS) u, x.den E u w → x.den E u (w.setCells (E.at_ id).1 ((E.at_ id).2 + off) us) := fun x u h => AS.den_kept h (Env.Le.refl _ _) hk
  have hlen : id < h.length := hh.len id hx
  refine ⟨⟨?_, ?_, ?_, ?_⟩, hk, ?_, hT⟩
  · intro i hi; rw [List.length_set]; exact hh.len i hi
  · intro i o hi hxi
    rw [List.getElem?_set] at hi
    by_cases e : id = i
    · subst e
      rw [if_pos rfl] at hi
      simp only [hlen, if_true, Option.some.injEq] at hi
      subst hi
      refine ⟨splice vs off us, rangeAt_splice h1 (by omega), by rw [setCells_size]; exact h2, (h3.splice hy off).mono fun _ _ h => hden _ _ h, fun _ => ⟨?_, hM, hT⟩, fun hc => by cases hc⟩
      rw [splice_length (by omega)]
      exact World.there_setCells ht _ _ _
    · rw [if_neg e] at hi
      obtain ⟨vs', g1, g2, g3, g4, g5⟩ := hh.obj i o hi hxi
      have hne : (E.at_ i).1 ≠ (E.at_ id).1 := hh.apart id i _ ho rfl hx hxi e
      have hblk := setCells_heap (E.at_ id).1 us ((E.at_ id).2 + off) w _ hne
      exact ⟨vs', rangeAt_of_block hblk g1, by rw [setCells_size]; exact g2, g3.mono fun _ _ h => hden _ _ h, fun hm => ⟨World.there_setCells (g4 hm).1 _ _ _, (g4 hm).2⟩, g5⟩
  · intro i j o hi hown hxi hxj hij
    rw [List.getElem?_set] at hi
    by_cases e : id = i
    · subst e; exact hh.apart id j _ ho rfl hx hxj hij
    · rw [if_neg e] at hi; exact hh.apart i j o hi hown hxi hxj hij
  · intro k hk'
    obtain ⟨i, o, g1, g2, g3, g4⟩ := hh.M k hk'
    by_cases e : id = i
    · subst e; exact ⟨id, ⟨true, splice cells off ys⟩, by rw [List.getElem?_set, if_pos rfl]; simp [hlen], g2, rfl, g4⟩
    · exact ⟨i, o, by rw [List.getElem?_set, if_neg e]; exact g1, g2, g3, g4⟩
  · intro j hj
    have := ht (off + j) (by omega)
    rwa [← Nat.add_assoc] at this

theorem KeptT.store {T : List Nat} {w0 w : World} (h : KeptT T w0 w) {b o : Nat} {us : List Value} (hb : w0.heap.size ≤ b ∨ b ∈ T) : KeptT T w0 (w.setCells b o us) := by
  obtain ⟨e1, e2, e3⟩ := setCells_rest b us o w
  refine ⟨e1.trans h.os, e2.trans h.tape, e3.trans h.output, by rw [setCells_size]; exact h.size, fun k hk ht => ?_⟩
  rw [setCells_heap b us o w k (fun e => hb.elim (fun x => by omega) (fun x => ht (e ▸ x))), h.block k hk ht]

/-! ### What an operation makes -/

def bsZero (P : Program) (len : Nat) (elem : TypeId) : Option (List AS) := if len = 0 then some [] else zeroCells P elem
def bsOK (len z zl : Nat) : Bool := decide (len * z ≤ 2 ^ 24) && decide (0 < z) && (decide (len = 0) || decide (zl = z))

/-- The cells of a new object, and, of a slice, its length. -/
def absBirth (P : Program) (A : AF) (o : Oper) : Option (List AS × Option Nat) :=
  match o.guard with
  | some _ => none
  | none => match o.op with
    | .alloc t => (zeroCells P t).map fun c => (c, none)
    | .box _ x => (evG A none none x).map fun x => (aeCells x, none)
    | .buildSlice t len parts => match P.underlying t with
      | some (.slice elem) => match sizeT P elem, mapO (fun p : Nat × Operand => (evG A none none p.2).map fun x => (p.1, x)) parts.toList, bsZero P len elem with
        | some z, some ps, some zc => if bsOK len z zc.length = true then
            (afill (fun i => some (i * z, z)) ((List.range (len * z)).map fun i => zc.getD (i % zc.length) (.st .nilFunc)) ps).map fun c => (c, some len)
          else none
        | _, _, _ => none
      | _ => none
    | _ => none

def birthAE (id : Nat) : Option Nat → AE
  | none => .s (.ptr id 0)
  | some len => .s (.slc id 0 len)

def birthVal (b : Nat) : Option Nat → Value
  | none => .pointer (some ⟨b, 0, none⟩)
  | some len => .slice (some ⟨b, 0, none⟩) len len

theorem absBirth_sound {P : Program} {E : Env} {w : World} {ops : Array Oper} {A : AF} (hwf : WF ops A) {a : Act} {o : Oper} {cells : List AS} {sl : Option Nat} (h : absBirth P A o = some (cells, sl))
    (hf : ∀ t ∈ o.looksAt ops, denF E A t (a.tmps.getD t undef) w) :
    o.guard = none ∧ ∃ arr ty, (execOp a.eval o).run P w = .ok (.value (birthVal w.heap.size sl)) (w.alloc (.cells arr ty)) ∧ Each (fun (x : AS) u => x.den E u w) cells arr.toList := by
  have hop : ∀ x ∈ o.op.operands.toList, ∀ ae, evG A none none x = some ae → ae.den E (a.eval x) w := fun x hx ae he =>
    evG_den hwf Behind.open_ (fun t ht => hf t (mem_looks_operand (by rw [← ht]; exact hx))) he
  unfold absBirth at h
  split at h
  · cases h
  · rename_i hg
    refine ⟨hg, ?_⟩
    split at h
    · rename_i t eo
      obtain ⟨c, hc, e⟩ := Option.map_eq_some_iff.1 h
      cases e
      obtain ⟨z, hz, hd⟩ := zeroCells_run hc E w
      refine ⟨z.cells, t, ?_, hd⟩
      unfold execOp
      simp only [eo, Instr.alloc, Sem.run_bind, hz, Result.andThen_ok, newVar, newRow, run_newObj, Sem.run_pure]
      rfl
    · rename_i t x eo
      obtain ⟨y, hy, e⟩ := Option.map_eq_some_iff.1 h
      cases e
      have hd := hop x (by rw [eo]; simp [Op.operands]) _ hy
      refine ⟨(a.eval x).cells, t, ?_, aeCells_den hd⟩
      unfold execOp
      simp only [eo, Instr.box, newVar, newRow, Sem.run_bind, run_newObj, Result.andThen_ok, Sem.run_pure]
      rfl
    · rename_i t len parts eo
      split at h
      · rename_i elem eu
        split at h
        · rename_i z ps zc e1 e2 e3
          split at h
          · rename_i hcond
            unfold bsZero at e3
            simp only [bsOK, Bool.and_eq_true, Bool.or_eq_true, decide_eq_true_eq] at hcond
            obtain ⟨⟨hle, hz0⟩, hzl⟩ := hcond
            obtain ⟨c, hc, e⟩ := Option.map_eq_some_iff.1 h
            cases e
            have hparts : ∀ (l : List (Nat × Operand)) (ps : List (Nat × AE)), (∀ p ∈ l, p ∈ parts.toList) → mapO (fun p : Nat × Operand => (evG A none none p.2).map fun x => (p.1, x)) l = some ps →
                Each (fun (p : Nat × AE) (q : Nat × Value) => p.1 = q.1 ∧ p.2.den E q.2 w) ps (l.map fun p => (p.1, a.eval p.2)) := by
              intro l
              induction l with
              | nil => intro ps _ h; cases h; exact .nil
              | cons p l ih =>
                intro ps hl h
                simp only [mapO] at h
                split at h
                · rename_i y ys e1 e2
                  cases h
                  obtain ⟨x, hx, rfl⟩ := Option.map_eq_some_iff.1 e1
                  refine .cons ⟨rfl, hop p.2 ?_ x hx⟩ (ih ys (fun q hq => hl q (by simp [hq])) e2)
                  have hm := hl p (by simp)
                  rw [eo]
                  simp only [Op.operands, List.toList_toArray, List.mem_map]
                  exact ⟨p, hm, rfl⟩
                · cases h
            obtain ⟨zv, hzrun, hzd⟩ : ∃ zv : Array Value, (if len * z = 0 then pure #[] else do pure (← zeroValue elem).cells : Sem (Array Value)).run P w = .ok zv w ∧ Each (fun (x : AS) u => x.den E u w) zc zv.toList := by
              by_cases hl : len = 0
              · subst hl
                simp only [if_true] at e3
                cases e3
                exact ⟨#[], by simp, .nil⟩
              · rw [if_neg hl] at e3
                obtain ⟨zz, h1, h2⟩ := zeroCells_run e3 E w
                have : len * z ≠ 0 := Nat.mul_ne_zero hl (Nat.pos_iff_ne_zero.1 hz0)
                exact ⟨zz.cells, by rw [if_neg this, Sem.run_bind, h1]; rfl, h2⟩
            have hbase : Each (fun (x : AS) u => x.den E u w) ((List.range (len * z)).map fun i => zc.getD (i % zc.length) (.st .nilFunc)) ((Array.range (len * z)).map (zv[· % zv.size]!)).toList := by
              rw [Array.toList_map, Array.toList_range]
              have hsz : zv.size = zc.length := by have := hzd.length; simpa using this.symm
              by_cases hl : len = 0
              · subst hl; simp; exact .nil
              · have hzl := hzl.resolve_left hl
                have key : ∀ l : List Nat, Each (fun (x : AS) u => x.den E u w) (l.map fun i => zc.getD (i % zc.length) (.st .nilFunc)) (l.map (zv[· % zv.size]!)) := by
                  intro l
                  induction l with
                  | nil => exact .nil
                  | cons i l ih =>
                    refine .cons ?_ ih
                    have hlt : i % zc.length < zc.length := Nat.mod_lt _ (by omega)
                    obtain ⟨u, hu, hden⟩ := hzd.get (i := i % zc.length) (x := zc[i % zc.length]) (by simp [hlt])
                    have h1 : zc.getD (i % zc.length) (.st .nilFunc) = zc[i % zc.length] := by simp [hlt]
                    have h2 : zv[i % zv.size]! = u := by
                      rw [hsz]
                      have : i % zc.length < zv.size := by omega
                      rw [getElem!_pos zv _ this]
                      rw [Array.getElem?_toList] at hu
                      simpa [this] using hu
                    show (zc.getD (i % zc.length) (.st .nilFunc)).den E (zv[i % zv.size]!) w
                    rw [h1, h2]; exact hden
                exact key _
            obtain ⟨us, hus, hden⟩ := afill_sound ps _ _ _ hc (hparts _ _ (fun _ h => h) e2) hbase
            refine ⟨us, elem, ?_, hden⟩
            unfold execOp
            simp only [eo, Instr.buildSlice, Sem.run_bind, run_underlying eu, Result.andThen_ok, run_sizeOf_of e1]
            rw [if_neg (by omega)]
            have e4 : (Array.map (fun x : Nat × Operand => (x.1, a.eval x.2)) parts).toList = List.map (fun p => (p.1, a.eval p.2)) parts.toList := by simp
            by_cases hz : len * z = 0
            · rw [if_pos hz] at hzrun ⊢
              simp only [Sem.run_pure, Result.ok.injEq] at hzrun
              obtain ⟨rfl, _⟩ := hzrun
              rw [Sem.run_bind, Sem.run_pure, Result.andThen_ok, e4, hus]
              rfl
            · rw [if_neg hz] at hzrun ⊢
              rw [Sem.run_bind] at hzrun
              cases hq : (zeroValue elem).run P w with
              | halt x w2 => rw [hq] at hzrun; simp at hzrun
              | ok zz w2 =>
                rw [hq] at hzrun
                simp only [Result.andThen_ok, Sem.run_pure, Result.ok.injEq] at hzrun
                obtain ⟨rfl, rfl⟩ := hzrun
                rw [Sem.run_bind, hq, Result.andThen_ok, Sem.run_bind, Sem.run_pure, Result.andThen_ok, e4, hus]
                rfl
          · cases h
        · cases h
      · cases h
    · cases h

/-- What is written: into which object, its new cells. -/
def absStore (P : Program) (hp : List AObj) (A : AF) (o : Oper) : Option (Nat × List AS) :=
  match o.guard with
  | some _ => none
  | none => match o.op with
    | .store t p x => match evG A none none p, evG A none none x with
      | some (.s (.ptr id off)), some y => match hp[id]?, sizeT P t with
        | some ⟨true, cells⟩, some n => if n = (aeCells y).length ∧ off + (aeCells y).length ≤ cells.length then some (id, splice cells off (aeCells y)) else none
        | _, _ => none
      | _, _ => none
    | _ => none

theorem cells_storeVar {P : Program} {w : World} {t : TypeId} {b o : Nat} {v : Value} (ht : w.there b o v.cells.toList.length) (hs : sizeT P t = some v.cells.toList.length) (h1 : ∀ u ∈ v.cells.toList, u.oneCell' = true) :
    (storeVar t ⟨b, o, none⟩ v).run P w = .ok () (w.setCells b o v.cells.toList) := by
  have := run_storeCells_cells (P := P) b o v.cells.toList 0 w (fun j hj => by simpa using (ht j hj).1) (fun j hj => by simpa using (ht j hj).2) h1
  simp only [storeVar, Sem.run_bind, run_sizeOf_of hs, Result.andThen_ok]
  rw [if_neg (by simp)]
  simpa using this

theorem each_one {E : Env} {w : World} {xs : List AS} {vs : List Value} (h : Each (fun (x : AS) u => x.den E u w) xs vs) : ∀ u ∈ vs, u.oneCell' = true := by
  induction h with
  | nil => intro u hu; cases hu
  | cons h _ ih => intro u hu; rcases List.mem_cons.1 hu with rfl | hu; exact AS.den_one h; exact ih u hu

theorem absStore_sound {P : Program} {E : Env} {T : List Nat} {w0 : World} {hp : List AObj} {w : World} {ops : Array Oper} {A : AF} (hwf : WF ops A) {a : Act} {o : Oper} {id : Nat} {cells : List AS}
    (h : absStore P hp A o = some (id, cells)) (hC : CW E T w0 hp w) (hf : ∀ t ∈ o.looksAt ops, denF E A t (a.tmps.getD t undef) w) :
    o.guard = none ∧ E.ex id ∧ ∃ w', (execOp a.eval o).run P w = .ok .skip w' ∧ CW E T w0 (hp.set id ⟨true, cells⟩) w' ∧ Kept E.M w w' := by
  have hop : ∀ x ∈ o.op.operands.toList, ∀ ae, evG A none none x = some ae → ae.den E (a.eval x) w := fun x hx ae he =>
    evG_den hwf Behind.open_ (fun t ht => hf t (mem_looks_operand (by rw [← ht]; exact hx))) he
  unfold absStore at h
  split at h
  · cases h
  · rename_i hg
    refine ⟨hg, ?_⟩
    split at h
    · rename_i t p x eo
      split at h
      · rename_i id' off y e1 e2
        split at h
        · rename_i cs n e3 e4
          split at h
          · rename_i hcond
            obtain ⟨hn, hle⟩ := hcond
            cases h
            have hpd := hop p (by rw [eo]; simp [Op.operands]) _ e1
            have hyd := hop x (by rw [eo]; simp [Op.operands]) _ e2
            have hcells := aeCells_den hyd
            obtain ⟨s1, s2, s3, s4⟩ := hC.1.store hpd.1 e3 hcells hle
            refine ⟨hpd.1, _, ?_, ⟨s1, hC.2.store s4⟩, s2⟩
            unfold execOp
            simp only [eo, Instr.storeAt, Sem.run_bind]
            rw [show a.eval p = _ from hpd.2]
            simp only [Instr.sureAddr, Sem.run_pure, Result.andThen_ok]
            rw [cells_storeVar s3 (by rw [e4, hn, hcells.length]) (each_one hcells)]
            rfl
          · cases h
        · cases h
      · cases h
    · cases h

end Go.Proofs.Ytkmijohkblmajaa
