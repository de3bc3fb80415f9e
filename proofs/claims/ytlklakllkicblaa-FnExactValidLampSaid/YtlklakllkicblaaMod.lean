/- What the functions compute, in plain words. -/
import Derived.Test.YtlklakllkicblaaLibU
namespace Go.Proofs.Ytlklakllkicblaa
open Go Go.RowKit
/-! Narrow numbers -/
abbrev nadd := fadd .f32
abbrev nsub := fsub .f32
abbrev nmul := fmul .f32
abbrev ndiv := fdiv .f32
/-- The law's comparison of two wide numbers. -/
def sameD (a b : Nat) : Bool := bif (bif fne .f64 a a then true else fne .f64 b b) then (bif fne .f64 a a then fne .f64 b b else false)
  else (bif (bif feq .f64 a 0 then feq .f64 b 0 else false) then (fgt .f64 (fdiv .f64 4607182418800017408 a) 0 == fgt .f64 (fdiv .f64 4607182418800017408 b) 0) else feq .f64 a b)
theorem sameD_self (a : Nat) : sameD a a = true := by
  unfold sameD
  cases h : fne .f64 a a
  · have : feq .f64 a a = true := by
      unfold fne at h
      unfold feq
      cases hq : FloatKind.f64.format.order a a == some .eq
      · rw [bne, hq] at h; cases h
      · rfl
    cases feq .f64 a 0 <;> simp [this]
  · rfl
def minor (a b c d : Nat) : Nat := nsub (nmul a d) (nmul b c)
def turnsLeft (a0 a1 b0 b1 c0 c1 : Nat) : Nat := minor (nsub b0 a0) (nsub b1 a1) (nsub c0 a0) (nsub c1 a1)
def detOf (a b c d e f g h i : Nat) : Nat := nadd (nsub (nmul a (minor e f h i)) (nmul b (minor d f g i))) (nmul c (minor d e g h))
def isPlain (a : Nat) : Bool := bif fge .f32 a 3379831808 then fle .f32 a 1232348160 else false
def isFin (a : Nat) : Bool := feq .f32 (nsub a a) 0
/-- The loop's way: at the first that is not, false. -/
def allC : List Bool → Bool
  | [] => true
  | b :: r => bif !b then false else allC r
/-- The index of the first; -1. -/
def idxB : Int → List Bool → Int
  | _, [] => -1
  | k, b :: r => bif b then k else idxB (k + 1) r
theorem idxB_any (bs : List Bool) : ∀ k : Int, 0 ≤ k → decide (idxB k bs ≥ 0) = bs.any id := by
  induction bs with
  | nil => intro k _; rfl
  | cons b r ih =>
    intro k hk
    cases b
    · simpa [idxB] using ih (k + 1) (by omega)
    · simpa [idxB] using hk
theorem not_any (bs : List Bool) : (!bs.any id) = allC (bs.map (!·)) := by
  induction bs with
  | nil => rfl
  | cons b r ih => cases b <;> simp [allC] at * <;> exact ih
theorem not_idxB (bs : List Bool) : (!decide (idxB 0 bs ≥ 0)) = allC (bs.map (!·)) := by rw [idxB_any _ 0 (Int.le_refl _), not_any]
def allF (p : Nat → Bool) (l : List Nat) : Bool := allC (l.map fun x => !!p x)
theorem allC_bif (b : Bool) (r : List Bool) : allC (b :: r) = (bif b then allC r else false) := by cases b <;> rfl
def samePoint (a b c x y z : Nat) : Bool := bif (bif sameN a x then sameN b y else false) then sameN c z else false
def sameLamp (a b c : Nat) (s : Bool) (t x y z : Nat) (v : Bool) (w : Nat) : Bool := bif (bif samePoint a b c x y z then (s == v) else false) then sameN t w else false
def areaOfFour (a b c d e f g h : Nat) : Nat := nmul 1056964608 (nadd (nadd (nadd (nadd 0 (minor a b c d)) (minor c d e f)) (minor e f g h)) (minor g h a b))
def sameMap (a b c d e f g h i a' b' c' d' e' f' g' h' i' : Nat) : Bool := allC [sameN a a', sameN b b', sameN c c', sameN d d', sameN e e', sameN f f', sameN g g', sameN h h', sameN i i']
def allL (p : Nat → Bool) (l : List Nat) : Bool := allC (l.map p)
theorem allF_L (p : Nat → Bool) (l : List Nat) : allF p l = allL p l := by unfold allF allL; congr 1; exact List.map_congr_left fun x _ => Bool.not_not _
def validMap (a b c d e f g h i : Nat) : Bool := bif allL isPlain [a, b, c, d, e, f, g, h, i] then !small (detOf a b c d e f g h i) else false
theorem allC_cons (b : Bool) (r : List Bool) : allC (b :: r) = (b && allC r) := by cases b <;> rfl
theorem allC_nil : allC [] = true := rfl
theorem bif_f (a b : Bool) : (bif a then b else false) = (a && b) := by cases a <;> rfl
theorem bif_t (a b : Bool) : (bif a then true else b) = (a || b) := by cases a <;> rfl
theorem bif_bif {α : Type} (a b : Bool) (x y : α) : (bif a then x else bif b then x else y) = bif a || b then x else y := by cases a <;> rfl
theorem code_ne (b : Bool) : ((bif b then (1 : Int) else 0) != 0) = b := by cases b <;> rfl
def sel (c : Bool) (x : Nat) : Nat := bif c then 0 else x
def cod (c : Bool) (k : Int) (n : Int) : Int := bif c then k else n
def ptOK (x y z : Nat) : Bool := bif (bif isPlain x then isPlain y else false) then isPlain z else false
def spotOK (x y : Nat) : Bool := bif isPlain x then isPlain y else false
def ptF (x y z : Nat) : Bool := allF isPlain [x, y, z]
def spotF (x y : Nat) : Bool := allF isPlain [x, y]
def all2 (p : Nat → Nat → Bool) : List Nat → List Bool
  | x :: y :: r => (!!p x y) :: all2 p r
  | _ => []
def all3 (p : Nat → Nat → Nat → Bool) : List Nat → List Bool
  | x :: y :: z :: r => (!!p x y z) :: all3 p r
  | _ => []
def allPts (l : List Nat) : Bool := allC (all3 ptF l)
def allSps (l : List Nat) : Bool := allC (all2 spotF l)
def root (a : Nat) : Nat := fnarrow (fsqrt (fwide a))
def dot (a b c x y z : Nat) : Nat := nadd (nadd (nmul a x) (nmul b y)) (nmul c z)
def len (a b c : Nat) : Nat := root (dot a b c a b c)
def fin3 (a b c : Nat) : Bool := bif (bif isFin a then isFin b else false) then isFin c else false
def fin2 (a b : Nat) : Bool := bif isFin a then isFin b else false
/-- Two divisions and their codes, as both sides answer. -/
def two (c1 c2 : Bool) (q : Nat → Nat → Bool) (x y v : Nat) : Nat := sel c1 (sel c2 (sel (!q x y) v))
def twoC (c1 c2 : Bool) (q : Nat → Nat → Bool) (x y : Nat) : Int := cod c1 1 (cod c2 4 (cod (!q x y) 4 0))
def bad2 (a b c x y z : Nat) : Bool := bif !ptOK a b c then true else !ptOK x y z
def meetX (a b c x y z : Nat) : Nat := ndiv (minor b c y z) (minor a b x y)
def meetY (a b c x y z : Nat) : Nat := ndiv (minor c a z x) (minor a b x y)
def badS (a b x y : Nat) : Bool := bif !spotOK a b then true else !spotOK x y
def lineC (c a b x y : Nat) : Nat := minor a b x y
/-- A cell of the line: c is the cell itself. -/
def lineOut (bad : Bool) (l0 l1 l2 c : Nat) : Nat := sel bad (sel (bif small l0 then small l1 else false) (sel (!fin3 l0 l1 l2) c))
def lineCod (bad : Bool) (l0 l1 l2 : Nat) : Int := cod bad 1 (cod (bif small l0 then small l1 else false) 4 (cod (!fin3 l0 l1 l2) 4 0))
def badM (a b c d e f g h i x y : Nat) : Bool := bif !validMap a b c d e f g h i then true else !spotOK x y
def rowOf (a b c x y : Nat) : Nat := nadd (nadd (nmul a x) (nmul b y)) c
theorem validMapF (a b c d e f g h i : Nat) : (bif allF isPlain [a, b, c, d, e, f, g, h, i] then !small (detOf a b c d e f g h i) else false) = validMap a b c d e f g h i := by unfold validMap; rw [allF_L]
theorem allSps1 (x y : Nat) : allSps [x, y] = spotOK x y := by simp only [allSps, all2, spotF, allF, List.map, allC_cons, allC_nil, Bool.not_not, Bool.and_true, spotOK, bif_f]
theorem cod_code (b : Bool) (n : Int) : cod b (bif b then (1 : Int) else 0) n = cod b 1 n := by cases b <;> rfl
def stretch (a b c d e f g h i x y : Nat) : Nat := ndiv (detOf a b c d e f g h i) (nmul (nmul (rowOf g h i x y) (rowOf g h i x y)) (rowOf g h i x y))
def okLamp (a b c : Nat) (s : Bool) (t : Nat) : Bool := bif (bif (bif ptOK a b c then fge .f32 t 0 else false) then fle .f32 t 1148846080 else false) then (bif !s then true else fge .f32 (len a b c) 981467136) else false
end Go.Proofs.Ytlklakllkicblaa
