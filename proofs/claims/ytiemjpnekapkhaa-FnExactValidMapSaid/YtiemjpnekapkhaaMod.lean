/- What the functions compute, in plain words. -/
import Derived.Test.YtiemjpnekapkhaaLibT
namespace Go.Proofs.Ytiemjpnekapkhaa
open Go Go.RowKit
/-! Narrow numbers -/
abbrev nadd := fadd .f32
abbrev nsub := fsub .f32
abbrev nmul := fmul .f32
abbrev ndiv := fdiv .f32
/-- The law's comparison of two wide numbers. -/
def sameD (a b : Nat) : Bool := bif (bif fne .f64 a a then true else fne .f64 b b) then (bif fne .f64 a a then fne .f64 b b else false)
  else (bif (bif feq .f64 a 0 then feq .f64 b 0 else false) then (fgt .f64 (fdiv .f64 4607182418800017408 a) 0 == fgt .f64 (fdiv .f64 4607182418800017408 b) 0) else feq .f64 a b)
theorem sameD_self (a : Nat) : sameD a a = true := by
  unfold sameD
  cases h : fne .f64 a a
  · have : feq .f64 a a = true := by
      unfold fne at h
      unfold feq
      cases hq : FloatKind.f64.format.order a a == some .eq
      · rw [bne, hq] at h; cases h
      · rfl
    cases feq .f64 a 0 <;> simp [this]
  · rfl
def minor (a b c d : Nat) : Nat := nsub (nmul a d) (nmul b c)
def turnsLeft (a0 a1 b0 b1 c0 c1 : Nat) : Nat := minor (nsub b0 a0) (nsub b1 a1) (nsub c0 a0) (nsub c1 a1)
def detOf (a b c d e f g h i : Nat) : Nat := nadd (nsub (nmul a (minor e f h i)) (nmul b (minor d f g i))) (nmul c (minor d e g h))
def isPlain (a : Nat) : Bool := bif fge .f32 a 3379831808 then fle .f32 a 1232348160 else false
def isFin (a : Nat) : Bool := feq .f32 (nsub a a) 0
/-- The loop's way: at the first that is not, false. -/
def allC : List Bool → Bool
  | [] => true
  | b :: r => bif !b then false else allC r
/-- The index of the first; -1. -/
def idxB : Int → List Bool → Int
  | _, [] => -1
  | k, b :: r => bif b then k else idxB (k + 1) r
theorem idxB_any (bs : List Bool) : ∀ k : Int, 0 ≤ k → decide (idxB k bs ≥ 0) = bs.any id := by
  induction bs with
  | nil => intro k _; rfl
  | cons b r ih =>
    intro k hk
    cases b
    · simpa [idxB] using ih (k + 1) (by omega)
    · simpa [idxB] using hk
theorem not_any (bs : List Bool) : (!bs.any id) = allC (bs.map (!·)) := by
  induction bs with
  | nil => rfl
  | cons b r ih => cases b <;> simp [allC] at * <;> exact ih
theorem not_idxB (bs : List Bool) : (!decide (idxB 0 bs ≥ 0)) = allC (bs.map (!·)) := by rw [idxB_any _ 0 (Int.le_refl _), not_any]
def allF (p : Nat → Bool) (l : List Nat) : Bool := allC (l.map fun x => !!p x)
theorem allC_bif (b : Bool) (r : List Bool) : allC (b :: r) = (bif b then allC r else false) := by cases b <;> rfl
def samePoint (a b c x y z : Nat) : Bool := bif (bif sameN a x then sameN b y else false) then sameN c z else false
def sameLamp (a b c : Nat) (s : Bool) (t x y z : Nat) (v : Bool) (w : Nat) : Bool := bif (bif samePoint a b c x y z then (s == v) else false) then sameN t w else false
def areaOfFour (a b c d e f g h : Nat) : Nat := nmul 1056964608 (nadd (nadd (nadd (nadd 0 (minor a b c d)) (minor c d e f)) (minor e f g h)) (minor g h a b))
def sameMap (a b c d e f g h i a' b' c' d' e' f' g' h' i' : Nat) : Bool := allC [sameN a a', sameN b b', sameN c c', sameN d d', sameN e e', sameN f f', sameN g g', sameN h h', sameN i i']
def allL (p : Nat → Bool) (l : List Nat) : Bool := allC (l.map p)
theorem allF_L (p : Nat → Bool) (l : List Nat) : allF p l = allL p l := by unfold allF allL; congr 1; exact List.map_congr_left fun x _ => Bool.not_not _
def validMap (a b c d e f g h i : Nat) : Bool := bif allL isPlain [a, b, c, d, e, f, g, h, i] then !small (detOf a b c d e f g h i) else false
end Go.Proofs.Ytiemjpnekapkhaa
