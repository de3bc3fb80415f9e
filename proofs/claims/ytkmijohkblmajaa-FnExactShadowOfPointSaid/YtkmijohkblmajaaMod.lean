/- What the functions compute, in plain words. -/
import Derived.Test.YtkmijohkblmajaaLibV4
set_option linter.all false
namespace Go.Proofs.Ytkmijohkblmajaa
open Go Go.RowKit
/-! Narrow numbers -/
abbrev nadd := fadd .f32
abbrev nsub := fsub .f32
abbrev nmul := fmul .f32
abbrev ndiv := fdiv .f32
/-- The law's comparison of two wide numbers. -/
def sameD (a b : Nat) : Bool := bif (bif fne .f64 a a then true else fne .f64 b b) then (bif fne .f64 a a then fne .f64 b b else false)
  else (bif (bif feq .f64 a 0 then feq .f64 b 0 else false) then (fgt .f64 (fdiv .f64 4607182418800017408 a) 0 == fgt .f64 (fdiv .f64 4607182418800017408 b) 0) else feq .f64 a b)
theorem sameD_self (a : Nat) : sameD a a = true := by
  unfold sameD
  cases h : fne .f64 a a
  · have : feq .f64 a a = true := by
      unfold fne at h
      unfold feq
      cases hq : FloatKind.f64.format.order a a == some .eq
      · rw [bne, hq] at h; cases h
      · rfl
    cases feq .f64 a 0 <;> simp [this]
  · rfl
def minor (a b c d : Nat) : Nat := nsub (nmul a d) (nmul b c)
def turnsLeft (a0 a1 b0 b1 c0 c1 : Nat) : Nat := minor (nsub b0 a0) (nsub b1 a1) (nsub c0 a0) (nsub c1 a1)
def detOf (a b c d e f g h i : Nat) : Nat := nadd (nsub (nmul a (minor e f h i)) (nmul b (minor d f g i))) (nmul c (minor d e g h))
def isPlain (a : Nat) : Bool := bif fge .f32 a 3379831808 then fle .f32 a 1232348160 else false
def isFin (a : Nat) : Bool := feq .f32 (nsub a a) 0
/-- The loop's way: at the first that is not, false. -/
def allC : List Bool → Bool
  | [] => true
  | b :: r => bif !b then false else allC r
/-- The index of the first; -1. -/
def idxB : Int → List Bool → Int
  | _, [] => -1
  | k, b :: r => bif b then k else idxB (k + 1) r
theorem idxB_any (bs : List Bool) : ∀ k : Int, 0 ≤ k → decide (idxB k bs ≥ 0) = bs.any id := by
  induction bs with
  | nil => intro k _; rfl
  | cons b r ih =>
    intro k hk
    cases b
    · simpa [idxB] using ih (k + 1) (by omega)
    · simpa [idxB] using hk
theorem not_any (bs : List Bool) : (!bs.any id) = allC (bs.map (!·)) := by
  induction bs with
  | nil => rfl
  | cons b r ih => cases b <;> simp [allC] at * <;> exact ih
theorem not_idxB (bs : List Bool) : (!decide (idxB 0 bs ≥ 0)) = allC (bs.map (!·)) := by rw [idxB_any _ 0 (Int.le_refl _), not_any]
def allF (p : Nat → Bool) (l : List Nat) : Bool := allC (l.map fun x => !!p x)
theorem allC_bif (b : Bool) (r : List Bool) : allC (b :: r) = (bif b then allC r else false) := by cases b <;> rfl
def samePoint (a b c x y z : Nat) : Bool := bif (bif sameN a x then sameN b y else false) then sameN c z else false
def sameLamp (a b c : Nat) (s : Bool) (t x y z : Nat) (v : Bool) (w : Nat) : Bool := bif (bif samePoint a b c x y z then (s == v) else false) then sameN t w else false
def areaOfFour (a b c d e f g h : Nat) : Nat := nmul 1056964608 (nadd (nadd (nadd (nadd 0 (minor a b c d)) (minor c d e f)) (minor e f g h)) (minor g h a b))
def sameMap (a b c d e f g h i a' b' c' d' e' f' g' h' i' : Nat) : Bool := allC [sameN a a', sameN b b', sameN c c', sameN d d', sameN e e', sameN f f', sameN g g', sameN h h', sameN i i']
def allL (p : Nat → Bool) (l : List Nat) : Bool := allC (l.map p)
theorem allF_L (p : Nat → Bool) (l : List Nat) : allF p l = allL p l := by unfold allF allL; congr 1; exact List.map_congr_left fun x _ => Bool.not_not _
def validMap (a b c d e f g h i : Nat) : Bool := bif allL isPlain [a, b, c, d, e, f, g, h, i] then !small (detOf a b c d e f g h i) else false
theorem validMapF (a b c d e f g h i : Nat) : (bif allF isPlain [a, b, c, d, e, f, g, h, i] then !small (detOf a b c d e f g h i) else false) = validMap a b c d e f g h i := by unfold validMap; rw [allF_L]
theorem allC_true {α : Type} (l : List α) : allC (l.map fun _ => true) = true := by
  induction l with
  | nil => rfl
  | cons x r ih => exact ih
theorem allC_same (l : List Nat) : allC (l.map fun x => sameD (fwide x) (fwide x)) = true := by
  induction l with
  | nil => rfl
  | cons x r ih =>
    show (bif !sameD (fwide x) (fwide x) then false else allC (r.map fun x => sameD (fwide x) (fwide x))) = true
    rw [sameD_self, ih]; rfl

theorem allC_cons (b : Bool) (r : List Bool) : allC (b :: r) = (b && allC r) := by cases b <;> rfl
theorem allC_nil : allC [] = true := rfl
theorem bif_f (a b : Bool) : (bif a then b else false) = (a && b) := by cases a <;> rfl
theorem bif_t (a b : Bool) : (bif a then true else b) = (a || b) := by cases a <;> rfl
theorem bif_bif {α : Type} (a b : Bool) (x y : α) : (bif a then x else bif b then x else y) = bif a || b then x else y := by cases a <;> rfl
theorem code_ne (b : Bool) : ((bif b then (1 : Int) else 0) != 0) = b := by cases b <;> rfl
def sel (c : Bool) (x : Nat) : Nat := bif c then 0 else x
def cod (c : Bool) (k : Int) (n : Int) : Int := bif c then k else n
def ptOK (x y z : Nat) : Bool := bif (bif isPlain x then isPlain y else false) then isPlain z else false
def spotOK (x y : Nat) : Bool := bif isPlain x then isPlain y else false
def ptF (x y z : Nat) : Bool := allF isPlain [x, y, z]
def spotF (x y : Nat) : Bool := allF isPlain [x, y]
def all2 (p : Nat → Nat → Bool) : List Nat → List Bool
  | x :: y :: r => (!!p x y) :: all2 p r
  | _ => []
def all3 (p : Nat → Nat → Nat → Bool) : List Nat → List Bool
  | x :: y :: z :: r => (!!p x y z) :: all3 p r
  | _ => []
def allPts (l : List Nat) : Bool := allC (all3 ptF l)
def allSps (l : List Nat) : Bool := allC (all2 spotF l)
def root (a : Nat) : Nat := fnarrow (fsqrt (fwide a))
def dot (a b c x y z : Nat) : Nat := nadd (nadd (nmul a x) (nmul b y)) (nmul c z)
def len (a b c : Nat) : Nat := root (dot a b c a b c)
def fin3 (a b c : Nat) : Bool := bif (bif isFin a then isFin b else false) then isFin c else false
def fin2 (a b : Nat) : Bool := bif isFin a then isFin b else false
/-- Two divisions and their codes, as both sides answer. -/
def two (c1 c2 : Bool) (q : Nat → Nat → Bool) (x y v : Nat) : Nat := sel c1 (sel c2 (sel (!q x y) v))
def twoC (c1 c2 : Bool) (q : Nat → Nat → Bool) (x y : Nat) : Int := cod c1 1 (cod c2 4 (cod (!q x y) 4 0))
def bad2 (a b c x y z : Nat) : Bool := bif !ptOK a b c then true else !ptOK x y z
def meetX (a b c x y z : Nat) : Nat := ndiv (minor b c y z) (minor a b x y)
def meetY (a b c x y z : Nat) : Nat := ndiv (minor c a z x) (minor a b x y)
def badS (a b x y : Nat) : Bool := bif !spotOK a b then true else !spotOK x y
def lineC (c a b x y : Nat) : Nat := minor a b x y
/-- A cell of the line: c is the cell itself. -/
def lineOut (bad : Bool) (l0 l1 l2 c : Nat) : Nat := sel bad (sel (bif small l0 then small l1 else false) (sel (!fin3 l0 l1 l2) c))
def lineCod (bad : Bool) (l0 l1 l2 : Nat) : Int := cod bad 1 (cod (bif small l0 then small l1 else false) 4 (cod (!fin3 l0 l1 l2) 4 0))
def badM (a b c d e f g h i x y : Nat) : Bool := bif !validMap a b c d e f g h i then true else !spotOK x y
def rowOf (a b c x y : Nat) : Nat := nadd (nadd (nmul a x) (nmul b y)) c
theorem allSps1 (x y : Nat) : allSps [x, y] = spotOK x y := by simp only [allSps, all2, spotF, allF, List.map, allC_cons, allC_nil, Bool.not_not, Bool.and_true, spotOK, bif_f]
theorem cod_code (b : Bool) (n : Int) : cod b (bif b then (1 : Int) else 0) n = cod b 1 n := by cases b <;> rfl
def stretch (a b c d e f g h i x y : Nat) : Nat := ndiv (detOf a b c d e f g h i) (nmul (nmul (rowOf g h i x y) (rowOf g h i x y)) (rowOf g h i x y))
def okLamp (a b c : Nat) (s : Bool) (t : Nat) : Bool := bif (bif (bif ptOK a b c then fge .f32 t 0 else false) then fle .f32 t 1148846080 else false) then (bif !s then true else fge .f32 (len a b c) 981467136) else false
def far (a b x y : Nat) : Bool := fgt .f32 (nabs (nsub y b)) (nabs (nsub x a))
/-- Of two cells, the one of the farther coordinate. -/
def pk (β : Bool) (x y : Nat) : Nat := bif ((bif β then 1 else 0 : Nat) == 0) then x else y
def rat (a b : Nat) : Nat := sel (small b) (sel (!isFin (ndiv a b)) (ndiv a b))
def ratC (b a : Nat) : Int := cod (small b) 4 (cod (!isFin (ndiv a b)) 4 0)
def bad4 (a b x y p q u v : Nat) : Bool := bif (bif (bif !spotOK a b then true else !spotOK x y) then true else !spotOK p q) then true else !spotOK u v
theorem bad4_eq (a b x y p q u v : Nat) : (!allSps [a, b, x, y, p, q, u, v]) = bad4 a b x y p q u v := by
  simp only [bad4, allSps, all2, spotF, allF, List.map, allC_cons, allC_nil, Bool.not_not, Bool.and_true, spotOK, bif_f, bif_t, Bool.not_and, Bool.or_assoc, Bool.and_assoc]
def crossN (β : Bool) (a b x y p q u v : Nat) : Nat := nmul (nsub (pk β p q) (pk β a b)) (nsub (pk β u v) (pk β x y))
def crossD (β : Bool) (a b x y p q u v : Nat) : Nat := nmul (nsub (pk β p q) (pk β x y)) (nsub (pk β u v) (pk β a b))
def badK (a b x y p q u v k : Nat) : Bool := bif bad4 a b x y p q u v then true else !isPlain k
def measN (β : Bool) (a b x y p q u v k : Nat) : Nat := nmul k (nmul (nsub (pk β u v) (pk β a b)) (nsub (pk β p q) (pk β x y)))
def measD (β : Bool) (a b x y p q u v : Nat) : Nat := nmul (nsub (pk β x y) (pk β a b)) (nsub (pk β p q) (pk β u v))
/-- The number of the greatest size, by value. -/
def byOf : Nat → List Nat → Nat
  | b, [] => b
  | b, a :: r => byOf (bif fgt .f32 (nabs a) (nabs b) then a else b) r
def selN (n : Nat) : Nat → List Nat → Nat
  | _, [] => 0
  | _, [x] => x
  | j, x :: y :: r => bif n == j then x else selN n (j + 1) (y :: r)
/-- The same, by its index. -/
def atOf (ms : List Nat) : Nat → Nat
  | 0 => 0
  | k + 1 => bif fgt .f32 (nsz (ms.getD (k + 1) 0)) (nsz (selN (atOf ms k) 0 (ms.take (k + 1)))) then k + 1 else atOf ms k
theorem selN_get (n : Nat) : ∀ (l : List Nat) (j : Nat), j ≤ n → n < j + l.length → selN n j l = l.getD (n - j) 0
  | [], j, h1, h2 => by simp at h2; omega
  | [x], j, h1, h2 => by
    have : n - j = 0 := by simp at h2; omega
    rw [this]; rfl
  | x :: y :: r, j, h1, h2 => by
    simp only [selN]
    by_cases hn : n = j
    · subst hn; simp
    · have hb : (n == j) = false := by simp [hn]
      rw [hb, cond_false, selN_get n (y :: r) (j + 1) (by omega) (by simp at h2 ⊢; omega)]
      have : n - j = (n - (j + 1)) + 1 := by omega
      rw [this]; rfl
theorem atOf_le (ms : List Nat) : ∀ k, atOf ms k ≤ k
  | 0 => Nat.le_refl _
  | k + 1 => by
    unfold atOf
    cases fgt .f32 (nsz (ms.getD (k + 1) 0)) (nsz (selN (atOf ms k) 0 (ms.take (k + 1))))
    · exact Nat.le_succ_of_le (atOf_le ms k)
    · exact Nat.le_refl _
theorem at_sel (ms : List Nat) (k : Nat) (h : k < ms.length) : selN (atOf ms k) 0 (ms.take (k + 1)) = ms.getD (atOf ms k) 0 := by
  have h1 := atOf_le ms k
  rw [selN_get _ _ _ (Nat.zero_le _) (by simp; omega), Nat.sub_zero]
  simp only [List.getD_eq_getElem?_getD, List.getElem?_take]
  rw [if_pos (by omega)]
theorem byOf_append (b : Nat) : ∀ (l : List Nat) (a : Nat), byOf b (l ++ [a]) = bif fgt .f32 (nabs a) (nabs (byOf b l)) then a else byOf b l := by
  intro l
  induction l generalizing b with
  | nil => intro a; rfl
  | cons x l ih => intro a; exact ih _ a
theorem at_by (ms : List Nat) : ∀ k, k < ms.length → ms.getD (atOf ms k) 0 = byOf (ms.getD 0 0) (ms.take (k + 1))
  | 0, h => by
    cases ms with
    | nil => cases h
    | cons x r =>
      have e1 : byOf x [x] = bif fgt .f32 (nabs x) (nabs x) then x else x := rfl
      show x = byOf x [x]
      rw [e1]
      generalize fgt .f32 (nabs x) (nabs x) = β
      cases β <;> rfl
  | k + 1, h => by
    have ih := at_by ms k (by omega)
    have ht : ms.take (k + 1 + 1) = ms.take (k + 1) ++ [ms.getD (k + 1) 0] := by
      rw [List.take_succ, List.getD_eq_getElem?_getD, List.getElem?_eq_getElem h]; rfl
    have e1 : atOf ms (k + 1) = bif fgt .f32 (nsz (ms.getD (k + 1) 0)) (nsz (selN (atOf ms k) 0 (ms.take (k + 1)))) then k + 1 else atOf ms k := rfl
    rw [ht, byOf_append, ← ih, e1, at_sel ms k (by omega), ← nsz_gt]
    generalize fgt .f32 (nabs (ms.getD (k + 1) 0)) (nabs (ms.getD (atOf ms k) 0)) = β
    cases β <;> rfl
theorem at_all (ms : List Nat) (h : ms.length = 9) : selN (atOf ms 8) 0 ms = byOf (ms.getD 0 0) ms := by
  have h1 := at_sel ms 8 (by omega)
  have h2 := at_by ms 8 (by omega)
  rw [List.take_of_length_le (by omega)] at h1 h2
  rw [h1, h2]
/-- All divided by the greatest. -/
def quos (ms : List Nat) : List Nat := let by_ := byOf (ms.getD 0 0) ms; ms.map fun x => ndiv x by_
def validL : List Nat → Bool
  | [a, b, c, d, e, f, g, h, i] => validMap a b c d e f g h i
  | _ => false
def scaledOut (ms : List Nat) : List Nat := (quos ms).map fun q => sel (!allL isPlain ms) (sel (!validL (quos ms)) q)
def scaledCod (ms : List Nat) : Int := cod (!allL isPlain ms) 4 (cod (!validL (quos ms)) 4 0)
theorem allF_eq (p : Nat → Bool) (l : List Nat) : allF p l = allL p l := allF_L p l
/-- The same, divided by the one at the index. -/
def quosAt (ms : List Nat) : List Nat := ms.map fun x => ndiv x (selN (atOf ms 8) 0 ms)
theorem quosAt_eq (ms : List Nat) (h : ms.length = 9) : quosAt ms = quos ms := by unfold quosAt quos; rw [at_all ms h]
def adj (a b c d e f g h i : Nat) : List Nat := [minor e f h i, minor c b i h, minor b c e f, minor f d i g, minor a c g i, minor c a f d, minor d e g h, minor b a h g, minor a b d e]
def dot3 (a b c x y z : Nat) : Nat := nadd (nadd (nmul a x) (nmul b y)) (nmul c z)
def comp (a b c d e f g h i a' b' c' d' e' f' g' h' i' : Nat) : List Nat := [dot3 a b c a' d' g', dot3 a b c b' e' h', dot3 a b c c' f' i', dot3 d e f a' d' g', dot3 d e f b' e' h', dot3 d e f c' f' i', dot3 g h i a' d' g', dot3 g h i b' e' h', dot3 g h i c' f' i']
def bad2M (a b c d e f g h i a' b' c' d' e' f' g' h' i' : Nat) : Bool := bif !validMap a b c d e f g h i then true else !validMap a' b' c' d' e' f' g' h' i'
theorem val_lo : fval 3379831808 = some (-((16000000 * 2 ^ 145 : Nat) : Int)) := by decide
theorem val_hi : fval 1232348160 = some ((16000000 * 2 ^ 145 : Nat) : Int) := by decide
theorem plain_val {a : Nat} (h : isPlain a = true) : ∃ v, fval a = some v ∧ v.natAbs ≤ 16000000 * 2 ^ 145 := by
  unfold isPlain at h
  have h1 : fge .f32 a 3379831808 = true := by
    cases hc : fge .f32 a 3379831808 with
    | true => rfl
    | false => rw [hc] at h; cases h
  rw [h1] at h
  obtain ⟨v, h2, h3, h4⟩ := between val_lo val_hi h1 h
  exact ⟨v, h2, by omega⟩
theorem fin_of {x : Nat} {a : Int} (h : fval x = some a) : isFin x = true := sub_self h
theorem fin_plain {a : Nat} (h : isPlain a = true) : isFin a = true := by
  obtain ⟨v, h1, _⟩ := plain_val h
  exact fin_of h1
set_option exponentiation.threshold 400 in
theorem fin_sub {a b : Nat} (h : isPlain a = true) (h' : isPlain b = true) : isFin (nsub a b) = true := by
  obtain ⟨v, h1, h2⟩ := plain_val h
  obtain ⟨u, h3, h4⟩ := plain_val h'
  have hb : (v - u).natAbs < 2 ^ 270 := by
    have h5 : (v - u).natAbs ≤ 16000000 * 2 ^ 145 + 16000000 * 2 ^ 145 := by omega
    exact Nat.lt_of_le_of_lt h5 (Nat.lt_of_lt_of_le (show 16000000 * 2 ^ 145 + 16000000 * 2 ^ 145 < 2 ^ 250 by decide) (Nat.pow_le_pow_right (by decide) (by decide)))
  obtain ⟨c, hc⟩ := sub_fin h1 h3 hb
  exact fin_of hc
def wayC (s : Bool) (a x : Nat) : Nat := bif s then a else nsub a x
def wayOut (bad : Bool) (s : Bool) (a b c x y z : Nat) : List Nat := [sel bad (wayC s a x), sel bad (wayC s b y), sel bad (wayC s c z)]
def badW (a b c : Nat) (s : Bool) (t x y z : Nat) : Bool := bif !okLamp a b c s t then true else !ptOK x y z
theorem ptOK_spec {a b c : Nat} (h : ptOK a b c = true) : isPlain a = true ∧ isPlain b = true ∧ isPlain c = true := by
  unfold ptOK at h
  cases h1 : isPlain a <;> cases h2 : isPlain b <;> cases h3 : isPlain c <;> simp [h1, h2, h3] at h ⊢
theorem okLamp_pt {a b c : Nat} {s : Bool} {t : Nat} (h : okLamp a b c s t = true) : ptOK a b c = true := by
  unfold okLamp at h
  cases h1 : ptOK a b c
  · rw [h1] at h; cases h
  · rfl
theorem way_fin {s : Bool} {a x : Nat} (h : isPlain a = true) (h' : isPlain x = true) : isFin (wayC s a x) = true := by
  cases s
  · exact fin_sub h h'
  · exact fin_plain h
/-- The way's numbers are finite: the check behind it changes nothing. -/
theorem way_done (a b c : Nat) (s : Bool) (t x y z : Nat) : badW a b c s t x y z = true ∨ fin3 (wayC s a x) (wayC s b y) (wayC s c z) = true := by
  cases hb : badW a b c s t x y z
  · right
    unfold badW at hb
    cases h1 : okLamp a b c s t
    · rw [h1] at hb; cases hb
    · rw [h1] at hb
      have h2 : ptOK x y z = true := by simpa using hb
      obtain ⟨p1, p2, p3⟩ := ptOK_spec (okLamp_pt h1)
      obtain ⟨q1, q2, q3⟩ := ptOK_spec h2
      unfold fin3
      rw [way_fin p1 q1, way_fin p2 q2, way_fin p3 q3]; rfl
  · left; rfl
theorem allPts1 (x y z : Nat) : allPts [x, y, z] = ptOK x y z := by simp only [allPts, all3, ptF, allF, List.map, allC_cons, allC_nil, Bool.not_not, Bool.and_true, ptOK, bif_f, Bool.and_assoc]
def i1 (g : Bool) : Int := ((bif g then 1 else 0 : Nat) : Int)
def up (g : Bool) (n : Int) : Int := bif g then IntKind.i64.wrap (n + 1) else n
def dn (g : Bool) (n : Int) : Int := bif g then n else IntKind.i64.wrap (n + 1)
def convS (s0 s1 s2 s3 g0 g1 g2 g3 : Bool) : Bool :=
  bif s0 then false else bif s1 then false else bif s2 then false else bif s3 then false else
    bif up g3 (up g2 (up g1 ((bif g0 then 1 else 0 : Nat) : Int))) == 0 then true else dn g3 (dn g2 (dn g1 ((bif g0 then 0 else 1 : Nat) : Int))) == 0
def convI (s0 s1 s2 s3 g0 g1 g2 g3 : Bool) : Bool :=
  let l1 : Int := ((bif s0 then 0 else bif g0 then 1 else 0 : Nat) : Int)
  let l2 := bif s1 then l1 else up g1 l1
  let l3 := bif s2 then l2 else up g2 l2
  let l4 := bif s3 then l3 else up g3 l3
  let r1 : Int := ((bif s0 then 0 else bif g0 then 0 else 1 : Nat) : Int)
  let r2 := bif s1 then r1 else dn g1 r1
  let r3 := bif s2 then r2 else dn g2 r2
  let r4 := bif s3 then r3 else dn g3 r3
  bif l4 == 4 then true else r4 == 4
theorem convI_eq (s0 s1 s2 s3 g0 g1 g2 g3 : Bool) : convI s0 s1 s2 s3 g0 g1 g2 g3 = convS s0 s1 s2 s3 g0 g1 g2 g3 := by
  cases s0 <;> cases s1 <;> cases s2 <;> cases s3 <;> cases g0 <;> cases g1 <;> cases g2 <;> cases g3 <;> rfl
def isConvexFour (a b c d e f g h : Nat) : Bool := convS (small (turnsLeft a b c d e f)) (small (turnsLeft c d e f g h)) (small (turnsLeft e f g h a b)) (small (turnsLeft g h a b c d)) (fgt .f32 (turnsLeft a b c d e f) 0) (fgt .f32 (turnsLeft c d e f g h) 0) (fgt .f32 (turnsLeft e f g h a b) 0) (fgt .f32 (turnsLeft g h a b c d) 0)
def isConvexFourI (a b c d e f g h : Nat) : Bool := convI (small (turnsLeft a b c d e f)) (small (turnsLeft c d e f g h)) (small (turnsLeft e f g h a b)) (small (turnsLeft g h a b c d)) (fgt .f32 (turnsLeft a b c d e f) 0) (fgt .f32 (turnsLeft c d e f g h) 0) (fgt .f32 (turnsLeft e f g h a b) 0) (fgt .f32 (turnsLeft g h a b c d) 0)
theorem isConvexFour_eq (a b c d e f g h : Nat) : isConvexFourI a b c d e f g h = isConvexFour a b c d e f g h := convI_eq ..
def isN (x : Nat) : Bool := (FloatKind.f32.decode x).isNaN
theorem div_nan {x y : Nat} (h : isN y = true) : ndiv x y = cnan .f32 := by
  show ((Ieee.Datum.quotient _ _ (FloatKind.f32.decode y)).map _).getD _ = _
  rw [quotient_nan_r h]; rfl
theorem mul_nan (x : Nat) : nmul (cnan .f32) x = cnan .f32 := by
  show ((Ieee.Datum.product (FloatKind.f32.decode (cnan .f32)) _).map _).getD _ = _
  rw [product_nan_l (cnan_nan .f32)]; rfl
theorem add_nan (x : Nat) : nadd x (cnan .f32) = cnan .f32 := by
  show ((Ieee.Datum.sum _ (FloatKind.f32.decode (cnan .f32))).map _).getD _ = _
  rw [sum_nan_r (cnan_nan .f32)]; rfl
theorem small_cases (a : Nat) : flt .f32 (nabs a) 897581056 = small a ∨ (isN a = true ∧ small a = true ∧ flt .f32 (nabs a) 897581056 = false) := by
  rw [← small_eq]
  cases hn : isN a with
  | true =>
    right
    have h := nabs_nan hn
    refine ⟨rfl, ?_, ?_⟩ <;> rw [h] <;> decide
  | false =>
    left
    have h := nabs_read hn
    unfold flt fge
    rw [order_def, h, dec_least]
    cases hd : FloatKind.f32.decode a with
    | nan s t => unfold isN at hn; rw [hd] at hn; cases hn
    | infinity s => rfl
    | number s m e =>
      obtain ⟨o, ho⟩ : ∃ o, Ieee.Datum.order (dabs (.number s m e)) (.number false 8388608 (-43)) = some o := ⟨_, rfl⟩
      rw [ho]
      cases o <;> rfl
def nf3 (q r s : Nat) : Bool := bif (bif !isFin q then true else !isFin r) then true else !isFin s
theorem nf3_eq (q r s : Nat) : nf3 q r s = !fin3 q r s := by
  unfold nf3 fin3; cases isFin q <;> cases isFin r <;> cases isFin s <;> rfl
def shO (b g f : Bool) (q r s : Nat) : List Nat := [q, r, s].map fun v => sel b (sel g (sel f v))
def shC (b g f : Bool) : Int := cod b 4 (cod g 6 (cod f 4 0))
def shE (s : Bool) (a b c n m o x y z : Nat) : Nat := dot n m o (wayC s a x) (wayC s b y) (wayC s c z)
def shT (s : Bool) (a b c n m o d x y z : Nat) : Nat := ndiv (nsub d (dot n m o x y z)) (shE s a b c n m o x y z)
def shQ (t x w : Nat) : Nat := nadd x (nmul t w)
def shQI (t x w : Nat) : Nat := nadd x (nmul w t)
theorem shQ_eq (t x w : Nat) : shQI t x w = shQ t x w := by unfold shQI shQ; rw [show nmul w t = nmul t w from fmul_comm _ _ _]
theorem sh_two (N E x y z u v w : Nat) : shO (flt .f32 (nabs E) 897581056) (fgt .f32 (ndiv N E) 0) (!fin3 (shQ (ndiv N E) x u) (shQ (ndiv N E) y v) (shQ (ndiv N E) z w)) (shQ (ndiv N E) x u) (shQ (ndiv N E) y v) (shQ (ndiv N E) z w) = shO (small E) (fgt .f32 (ndiv N E) 0) (!fin3 (shQ (ndiv N E) x u) (shQ (ndiv N E) y v) (shQ (ndiv N E) z w)) (shQ (ndiv N E) x u) (shQ (ndiv N E) y v) (shQ (ndiv N E) z w)
    ∧ shC (flt .f32 (nabs E) 897581056) (fgt .f32 (ndiv N E) 0) (!fin3 (shQ (ndiv N E) x u) (shQ (ndiv N E) y v) (shQ (ndiv N E) z w)) = shC (small E) (fgt .f32 (ndiv N E) 0) (!fin3 (shQ (ndiv N E) x u) (shQ (ndiv N E) y v) (shQ (ndiv N E) z w)) := by
  rcases small_cases E with h | ⟨h1, h2, h3⟩
  · rw [h]; exact ⟨rfl, rfl⟩
  · have hq : ∀ x u, shQ (cnan .f32) x u = cnan .f32 := fun x u => by unfold shQ; rw [mul_nan, add_nan]
    rw [div_nan h1]; simp only [hq, h2, h3]
    exact ⟨by decide, by decide⟩
def okPlane (n m o d : Nat) : Bool := bif (bif (bif ptOK n m o then isPlain d else false) then fge .f32 (len n m o) 1065336439 else false) then fle .f32 (len n m o) 1065361605 else false
def okPlaneI (n m o d : Nat) : Bool := bif (bif (bif isPlain d then ptOK n m o else false) then fge .f32 (len n m o) 1065336439 else false) then fle .f32 (len n m o) 1065361605 else false
theorem okPlane_eq (n m o d : Nat) : okPlaneI n m o d = okPlane n m o d := by
  unfold okPlaneI okPlane; cases isPlain d <;> cases ptOK n m o <;> rfl
abbrev shF (s : Bool) (a b c n m o d x y z : Nat) : Bool := !fin3 (shQ (shT s a b c n m o d x y z) x (wayC s a x)) (shQ (shT s a b c n m o d x y z) y (wayC s b y)) (shQ (shT s a b c n m o d x y z) z (wayC s c z))
abbrev shFS (s : Bool) (a b c n m o d x y z : Nat) : Bool := nf3 (shQ (shT s a b c n m o d x y z) x (wayC s a x)) (shQ (shT s a b c n m o d x y z) y (wayC s b y)) (shQ (shT s a b c n m o d x y z) z (wayC s c z))
abbrev shFI (s : Bool) (a b c n m o d x y z : Nat) : Bool := !fin3 (shQI (shT s a b c n m o d x y z) x (wayC s a x)) (shQI (shT s a b c n m o d x y z) y (wayC s b y)) (shQI (shT s a b c n m o d x y z) z (wayC s c z))
def shOut (s : Bool) (a b c n m o d x y z : Nat) : List Nat := shO (small (shE s a b c n m o x y z)) (fgt .f32 (shT s a b c n m o d x y z) 0) (shF s a b c n m o d x y z) (shQ (shT s a b c n m o d x y z) x (wayC s a x)) (shQ (shT s a b c n m o d x y z) y (wayC s b y)) (shQ (shT s a b c n m o d x y z) z (wayC s c z))
def shCod (s : Bool) (a b c n m o d x y z : Nat) : Int := shC (small (shE s a b c n m o x y z)) (fgt .f32 (shT s a b c n m o d x y z) 0) (shF s a b c n m o d x y z)
def badSh (a b c : Nat) (s : Bool) (t n m o d x y z : Nat) : Bool := bif (bif !okLamp a b c s t then true else !okPlane n m o d) then true else !ptOK x y z
def cdI (p q : Bool) : Int := bif p then 1 else q.toNat
def c01 (p : Bool) : Int := bif p then 1 else 0
def firstI (p q : Int) : Int := bif p != 0 then p else bif q != 0 then q else 0
def shI (a b c : Nat) (s : Bool) (t n m o d x y z : Nat) : Int := firstI (c01 (bif !okLamp a b c s t then true else !allPts [x, y, z])) (c01 (bif !okPlane n m o d then true else !true))
theorem shI_eq (a b c : Nat) (s : Bool) (t n m o d x y z : Nat) : shI a b c s t n m o d x y z = c01 (badSh a b c s t n m o d x y z) := by
  unfold shI badSh; rw [allPts1]; cases okLamp a b c s t <;> cases okPlane n m o d <;> cases ptOK x y z <;> rfl
/-! Units and frames -/
def uBad (a b c : Nat) : Bool := !fge .f32 (len a b c) 897581056
def uBadI (a b c : Nat) : Bool := bif !isFin (len a b c) then true else flt .f32 (len a b c) 897581056
def uL (U : Nat → Nat → Nat → Bool) (a b c : Nat) : List Nat := [sel (U a b c) (ndiv a (len a b c)), sel (U a b c) (ndiv b (len a b c)), sel (U a b c) (ndiv c (len a b c))]
def uOK (U : Nat → Nat → Nat → Bool) (a b c : Nat) : Bool := bif U a b c then false else fin3 (ndiv a (len a b c)) (ndiv b (len a b c)) (ndiv c (len a b c))
def crossL (a b c x y z : Nat) : List Nat := [minor b c y z, minor c a z x, minor a b x y]
abbrev hU (U : Nat → Nat → Nat → Bool) (w a b c : Nat) : Nat := sel (U a b c) (ndiv w (len a b c))
def frx (U : Nat → Nat → Nat → Bool) (a b c x y z : Nat) : List Nat :=
  [hU U a a b c, hU U b a b c, hU U c a b c, minor (hU U b a b c) (hU U c a b c) y z, minor (hU U c a b c) (hU U a a b c) z x, minor (hU U a a b c) (hU U b a b c) x y, x, y, z]
/-- Right, up and ahead, of a way and an upright. -/
def frame2 (U : Nat → Nat → Nat → Bool) (h0 h1 h2 px py pz : Nat) : List Nat := frx U (minor h1 h2 py pz) (minor h2 h0 pz px) (minor h0 h1 px py) h0 h1 h2
def frame1 (U : Nat → Nat → Nat → Bool) (dx dy dz px py pz : Nat) : List Nat := frame2 U (hU U dx dx dy dz) (hU U dy dx dy dz) (hU U dz dx dy dz) px py pz
def frameOf (U : Nat → Nat → Nat → Bool) (ex ey ez ax ay az px py pz : Nat) : List Nat := frame1 U (nsub ax ex) (nsub ay ey) (nsub az ez) px py pz
def ok2 (U : Nat → Nat → Nat → Bool) (h0 h1 h2 px py pz : Nat) : Bool := uOK U (minor h1 h2 py pz) (minor h2 h0 pz px) (minor h0 h1 px py)
def ok1 (U : Nat → Nat → Nat → Bool) (dx dy dz px py pz : Nat) : Bool := bif uOK U dx dy dz then ok2 U (hU U dx dx dy dz) (hU U dy dx dy dz) (hU U dz dx dy dz) px py pz else false
def frameOK (U : Nat → Nat → Nat → Bool) (ex ey ez ax ay az px py pz : Nat) : Bool := ok1 U (nsub ax ex) (nsub ay ey) (nsub az ez) px py pz
theorem allF_fin3 (a b c : Nat) : allF isFin [a, b, c] = fin3 a b c := by unfold fin3 allF; simp only [List.map, allC_cons, allC_nil, Bool.not_not, Bool.and_true]; cases isFin a <;> cases isFin b <;> cases isFin c <;> rfl
def camBad (ex ey ez ax ay az px py pz fa ne : Nat) : Bool := bif (bif (bif (bif (bif (bif !ptOK ex ey ez then true else !ptOK ax ay az) then true else !ptOK px py pz) then true else !isPlain fa) then true else !isPlain ne) then true else flt .f32 fa 1015021568) then true else flt .f32 ne 1015021568
def camBadI (ex ey ez ax ay az px py pz fa ne : Nat) : Bool := bif (bif (bif !allPts [ex, ey, ez, ax, ay, az, px, py, pz] then true else !allF isPlain [fa, ne]) then true else !fge .f32 fa 1015021568) then true else !fge .f32 ne 1015021568
def camOK (ex ey ez ax ay az px py pz fa ne : Nat) : Bool := bif camBad ex ey ez ax ay az px py pz fa ne then false else frameOK uBad ex ey ez ax ay az px py pz
def camOKI (ex ey ez ax ay az px py pz fa ne : Nat) : Bool := bif camBadI ex ey ez ax ay az px py pz fa ne then false else frameOK uBadI ex ey ez ax ay az px py pz
/-! Bounds: no length of what is plain is infinite -/
theorem fval_c64 : fval 1015021568 = some ((2 ^ 143 : Nat) : Int) := by decide
theorem plain_ge {a : Nat} (h : isPlain a = true) : (!fge .f32 a 1015021568) = flt .f32 a 1015021568 := by
  obtain ⟨v, h1, _⟩ := plain_val h
  unfold fge flt
  rw [order_fval h1 fval_c64]
  cases compare v _ <;> rfl
set_option exponentiation.threshold 400 in
theorem plain_up {a : Nat} (h : isPlain a = true) : Up a 19 := by
  obtain ⟨v, h1, h2⟩ := plain_val h
  obtain ⟨s, m, e, h3, h4, h5⟩ := fval_some h1
  refine ⟨s, m, e, h3, lt_wt h4.2.1 (by omega) ?_⟩
  rw [← uval_abs s m e, h5]
  exact Nat.lt_of_le_of_lt h2 (by decide)
theorem up_fin {a : Nat} {k : Int} (h : Up a k) : isFin a = true := by
  obtain ⟨s, m, e, h1, _⟩ := h
  exact fin_of (fval_number h1)
theorem up_lo {a : Nat} {k : Int} (h : Up a k) (l : Int) : Up a (l - 1) ∨ Lo a l := by
  obtain ⟨s, m, e, h1, h2⟩ := h
  by_cases h0 : m = 0
  · exact .inl ⟨s, m, e, h1, .inl h0⟩
  · by_cases hl : (m.log2 : Int) + e ≤ l - 1
    · exact .inl ⟨s, m, e, h1, .inr hl⟩
    · exact .inr ⟨s, m, e, h1, h0, by omega⟩
theorem up_zero (k : Int) : Up 0 k := ⟨false, 0, -149, dec_zero, .inl rfl⟩
theorem dot_self {a b c : Nat} {k : Int} (ha : Up a k) (hb : Up b k) (hc : Up c k) (h1 : -60 ≤ k) (h2 : k ≤ 60) :
    Pos (dot a b c a b c) ∧ Up (dot a b c a b c) (2 * k + 6) ∧ ∀ l, -63 ≤ l → (Lo a l ∨ Lo b l ∨ Lo c l) → Lo (dot a b c a b c) (2 * l) := by
  have pa := square ha (by omega) (by omega)
  have pb := square hb (by omega) (by omega)
  have pc := square hc (by omega) (by omega)
  have ua : Up (nmul a a) (2 * k + 2) := (up_mul ha ha (by omega) (by omega)).mono (by omega)
  have ub : Up (nmul b b) (2 * k + 2) := (up_mul hb hb (by omega) (by omega)).mono (by omega)
  have uc : Up (nmul c c) (2 * k + 4) := (up_mul hc hc (by omega) (by omega)).mono (by omega)
  have pab := pos_add pa.1 pb.1 ua ub (by omega) (by omega)
  have uab : Up (nadd (nmul a a) (nmul b b)) (2 * k + 4) := (up_add ua ub (by omega) (by omega)).mono (by omega)
  have pabc := pos_add pab.1 pc.1 uab uc (by omega) (by omega)
  refine ⟨pabc.1, (up_add uab uc (by omega) (by omega)).mono (by omega), fun l hl h => ?_⟩
  refine pabc.2 _ (by omega) ?_
  rcases h with h | h | h
  · exact .inl (pab.2 _ (by omega) (.inl (pa.2 l hl h)))
  · exact .inl (pab.2 _ (by omega) (.inr (pb.2 l hl h)))
  · exact .inr (pc.2 l hl h)
theorem len_bounds {a b c : Nat} {k : Int} (ha : Up a k) (hb : Up b k) (hc : Up c k) (h1 : -60 ≤ k) (h2 : k ≤ 60) :
    Up (len a b c) (k + 6) ∧ ∀ l, -60 ≤ l → (Lo a l ∨ Lo b l ∨ Lo c l) → Lo (len a b c) (l - 1) := by
  obtain ⟨p, u, lo⟩ := dot_self ha hb hc h1 h2
  obtain ⟨_, r2, r3⟩ := root_bounds p u (by omega) (by omega)
  refine ⟨r2.mono (by omega), fun l hl h => ?_⟩
  have := r3 (2 * l) (by omega) (lo l (by omega) h)
  have e : (2 * l - 2) / 2 = l - 1 := by omega
  rw [e] at this
  exact this
theorem fval_least : fval 897581056 = some ((2 ^ 129 : Nat) : Int) := by decide
theorem uBad_eq {a b c : Nat} {k : Int} (ha : Up a k) (hb : Up b k) (hc : Up c k) (h1 : -60 ≤ k) (h2 : k ≤ 60) : uBadI a b c = uBad a b c := by
  have hu := (len_bounds ha hb hc h1 h2).1
  unfold uBadI uBad
  rw [up_fin hu]
  obtain ⟨s, m, e, hd, _⟩ := hu
  unfold fge flt
  rw [order_fval (fval_number hd) fval_least]
  cases compare (uval s m e) _ <;> rfl
/-- The length, where it isn't too small. -/
theorem len_lo {a b c : Nat} {k : Int} (hu : Up (len a b c) k) (h : uBad a b c = false) : Lo (len a b c) (-20) := by
  obtain ⟨s, m, e, hd, _⟩ := hu
  unfold uBad fge at h
  rw [order_fval (fval_number hd) fval_least] at h
  have hge : ((2 ^ 129 : Nat) : Int) ≤ uval s m e := by
    rcases Int.lt_trichotomy (uval s m e) ((2 ^ 129 : Nat) : Int) with h3 | h3 | h3
    · rw [Int.compare_eq_lt.2 h3] at h; cases h
    · omega
    · omega
  have hn := normS hd
  have h4 : 2 ^ ((-20 : Int) + 149).toNat ≤ m * 2 ^ (e + 149).toNat := by
    rw [← uval_abs s m e]
    have : ((-20 : Int) + 149).toNat = 129 := by decide
    rw [this]; omega
  obtain ⟨g1, g2⟩ := ge_wt hn.2.1 (by omega) h4
  exact ⟨s, m, e, hd, g1, g2⟩
theorem unit_up {a b c : Nat} {k : Int} (ha : Up a k) (hb : Up b k) (hc : Up c k) (h1 : 11 ≤ k) (h2 : k ≤ 40) : ∀ w, (w = a ∨ w = b ∨ w = c) → Up (hU uBad w a b c) 32 := by
  intro w hw
  unfold hU sel
  cases hb' : uBad a b c with
  | true => exact up_zero _
  | false =>
    show Up (ndiv w (len a b c)) 32
    have hl := len_bounds ha hb hc (by omega) (by omega)
    have hlo := len_lo hl.1 hb'
    have hw' : Up w k := by rcases hw with rfl | rfl | rfl <;> assumption
    by_cases hbig : Lo a 12 ∨ Lo b 12 ∨ Lo c 12
    · have := hl.2 12 (by omega) hbig
      exact (up_div hw' this (by omega) (by omega)).mono (by omega)
    · have hs : Up w 11 := by
        rcases hw with rfl | rfl | rfl
        · exact (up_lo ha 12).resolve_right fun h => hbig (.inl h)
        · exact (up_lo hb 12).resolve_right fun h => hbig (.inr (.inl h))
        · exact (up_lo hc 12).resolve_right fun h => hbig (.inr (.inr h))
      exact (up_div hs hlo (by omega) (by omega)).mono (by omega)
theorem up_minor {a b c d : Nat} {k l : Int} (ha : Up a k) (hb : Up b k) (hc : Up c l) (hd : Up d l) (h1 : -120 ≤ k + l) (h2 : k + l ≤ 120) : Up (minor a b c d) (k + l + 4) := by
  exact (up_sub (up_mul ha hd (by omega) (by omega)) (up_mul hb hc (by omega) (by omega)) (by omega) (by omega)).mono (by omega)
theorem frame_eq {ex ey ez ax ay az px py pz : Nat} (h1 : ptOK ex ey ez = true) (h2 : ptOK ax ay az = true) (h3 : ptOK px py pz = true) :
    frameOf uBadI ex ey ez ax ay az px py pz = frameOf uBad ex ey ez ax ay az px py pz ∧ frameOK uBadI ex ey ez ax ay az px py pz = frameOK uBad ex ey ez ax ay az px py pz := by
  obtain ⟨e1, e2, e3⟩ := ptOK_spec h1
  obtain ⟨a1, a2, a3⟩ := ptOK_spec h2
  obtain ⟨p1, p2, p3⟩ := ptOK_spec h3
  have d1 : Up (nsub ax ex) 21 := up_sub (plain_up a1) (plain_up e1) (by omega) (by omega)
  have d2 : Up (nsub ay ey) 21 := up_sub (plain_up a2) (plain_up e2) (by omega) (by omega)
  have d3 : Up (nsub az ez) 21 := up_sub (plain_up a3) (plain_up e3) (by omega) (by omega)
  have q1 := plain_up p1
  have q2 := plain_up p2
  have q3 := plain_up p3
  unfold frameOf frameOK frame1 ok1
  generalize nsub ax ex = x at *
  generalize nsub ay ey = y at *
  generalize nsub az ez = z at *
  have b1 : uBadI x y z = uBad x y z := uBad_eq d1 d2 d3 (by omega) (by omega)
  have hh := unit_up d1 d2 d3 (by omega) (by omega)
  have g1 := hh x (.inl rfl)
  have g2 := hh y (.inr (.inl rfl))
  have g3 := hh z (.inr (.inr rfl))
  have eh : ∀ w, hU uBadI w x y z = hU uBad w x y z := fun w => by unfold hU; rw [b1]
  have eo : uOK uBadI x y z = uOK uBad x y z := by unfold uOK; rw [b1]
  rw [eh, eh, eh, eo]
  unfold frame2 ok2
  generalize hU uBad x x y z = r at *
  generalize hU uBad y x y z = s at *
  generalize hU uBad z x y z = t at *
  have c1 := up_minor g2 g3 q2 q3 (by omega) (by omega)
  have c2 := up_minor g3 g1 q3 q1 (by omega) (by omega)
  have c3 := up_minor g1 g2 q1 q2 (by omega) (by omega)
  generalize minor s t py pz = u at *
  generalize minor t r pz px = v at *
  generalize minor r s px py = w at *
  have b2 : uBadI u v w = uBad u v w := uBad_eq c1 c2 c3 (by omega) (by omega)
  unfold frx uOK hU
  rw [b2]
  exact ⟨rfl, rfl⟩
theorem allPts3 (a b c x y z p q r : Nat) : allPts [a, b, c, x, y, z, p, q, r] = (bif (bif ptOK a b c then ptOK x y z else false) then ptOK p q r else false) := by
  simp only [allPts, all3, ptF, allF, List.map, allC_cons, allC_nil, Bool.not_not, Bool.and_true, ptOK, bif_f, Bool.and_assoc]
theorem camBad_eq (ex ey ez ax ay az px py pz fa ne : Nat) : camBadI ex ey ez ax ay az px py pz fa ne = camBad ex ey ez ax ay az px py pz fa ne := by
  unfold camBadI camBad
  rw [allPts3, show allF isPlain [fa, ne] = (isPlain fa && isPlain ne) by simp only [allF, List.map, allC_cons, allC_nil, Bool.not_not, Bool.and_true]]
  cases hf : isPlain fa <;> cases hn : isPlain ne <;> cases ptOK ex ey ez <;> cases ptOK ax ay az <;> cases ptOK px py pz <;> try rfl
  rw [plain_ge hf, plain_ge hn]; rfl
theorem camBad_pts {ex ey ez ax ay az px py pz fa ne : Nat} (h : camBad ex ey ez ax ay az px py pz fa ne = false) : ptOK ex ey ez = true ∧ ptOK ax ay az = true ∧ ptOK px py pz = true := by
  unfold camBad at h
  cases h1 : ptOK ex ey ez <;> cases h2 : ptOK ax ay az <;> cases h3 : ptOK px py pz <;> simp [h1, h2, h3] at h ⊢
theorem camOK_eq (ex ey ez ax ay az px py pz fa ne : Nat) : camOKI ex ey ez ax ay az px py pz fa ne = camOK ex ey ez ax ay az px py pz fa ne := by
  unfold camOKI camOK
  rw [camBad_eq]
  cases h : camBad ex ey ez ax ay az px py pz fa ne with
  | true => rfl
  | false =>
    obtain ⟨h1, h2, h3⟩ := camBad_pts h
    rw [(frame_eq h1 h2 h3).2]
def mopL : List Nat → Nat → Nat → Nat → Nat → Nat → Nat → Nat → Nat → Nat → Nat → List Nat
  | [r0, r1, r2, u0, u1, u2, h0, h1, h2], fa, a, b, c, x, y, z, p, q, r =>
    [nmul fa (dot r0 r1 r2 a b c), nmul fa (dot r0 r1 r2 x y z), nmul fa (dot r0 r1 r2 p q r), nmul fa (dot u0 u1 u2 a b c), nmul fa (dot u0 u1 u2 x y z), nmul fa (dot u0 u1 u2 p q r), dot h0 h1 h2 a b c, dot h0 h1 h2 x y z, dot h0 h1 h2 p q r]
  | _, _, _, _, _, _, _, _, _, _, _ => []
def mop (U : Nat → Nat → Nat → Bool) (ex ey ez ax ay az px py pz fa ox oy oz a b c x y z : Nat) : List Nat :=
  mopL (frameOf U ex ey ez ax ay az px py pz) fa a b c x y z (nsub ox ex) (nsub oy ey) (nsub oz ez)
def badMop (ex ey ez ax ay az px py pz fa ne ox oy oz a b c x y z : Nat) : Bool := bif (bif (bif !camOK ex ey ez ax ay az px py pz fa ne then true else !ptOK ox oy oz) then true else !ptOK a b c) then true else !ptOK x y z
def badMopI (ex ey ez ax ay az px py pz fa ne ox oy oz a b c x y z : Nat) : Int := bif (bif !camOK ex ey ez ax ay az px py pz fa ne then true else !allPts [ox, oy, oz, a, b, c, x, y, z]) then 1 else 0
def mopOut (U : Nat → Nat → Nat → Bool) (β : Bool) (ex ey ez ax ay az px py pz fa ox oy oz a b c x y z : Nat) : List Nat := List.map (sel β) (scaledOut (mop U ex ey ez ax ay az px py pz fa ox oy oz a b c x y z))
def mopCod (U : Nat → Nat → Nat → Bool) (β : Bool) (ex ey ez ax ay az px py pz fa ox oy oz a b c x y z : Nat) : Int := cod β 1 (scaledCod (mop U ex ey ez ax ay az px py pz fa ox oy oz a b c x y z))
theorem badMop_eq (ex ey ez ax ay az px py pz fa ne ox oy oz a b c x y z : Nat) : badMopI ex ey ez ax ay az px py pz fa ne ox oy oz a b c x y z = bif badMop ex ey ez ax ay az px py pz fa ne ox oy oz a b c x y z then 1 else 0 := by
  unfold badMopI badMop
  rw [allPts3]
  cases camOK ex ey ez ax ay az px py pz fa ne <;> cases ptOK ox oy oz <;> cases ptOK a b c <;> cases ptOK x y z <;> rfl
theorem mop_two (ex ey ez ax ay az px py pz fa ne ox oy oz a b c x y z : Nat) : mopOut uBadI (badMop ex ey ez ax ay az px py pz fa ne ox oy oz a b c x y z) ex ey ez ax ay az px py pz fa ox oy oz a b c x y z = mopOut uBad (badMop ex ey ez ax ay az px py pz fa ne ox oy oz a b c x y z) ex ey ez ax ay az px py pz fa ox oy oz a b c x y z
    ∧ mopCod uBadI (badMop ex ey ez ax ay az px py pz fa ne ox oy oz a b c x y z) ex ey ez ax ay az px py pz fa ox oy oz a b c x y z = mopCod uBad (badMop ex ey ez ax ay az px py pz fa ne ox oy oz a b c x y z) ex ey ez ax ay az px py pz fa ox oy oz a b c x y z := by
  cases h : badMop ex ey ez ax ay az px py pz fa ne ox oy oz a b c x y z with
  | true => exact ⟨by kernel_rfl, by kernel_rfl⟩
  | false =>
    have hc : camBad ex ey ez ax ay az px py pz fa ne = false := by
      unfold badMop camOK at h
      cases hc : camBad ex ey ez ax ay az px py pz fa ne with
      | true => rw [hc] at h; cases h
      | false => rfl
    obtain ⟨h1, h2, h3⟩ := camBad_pts hc
    unfold mopOut mopCod mop
    rw [(frame_eq h1 h2 h3).1]
    exact ⟨rfl, rfl⟩
end Go.Proofs.Ytkmijohkblmajaa
