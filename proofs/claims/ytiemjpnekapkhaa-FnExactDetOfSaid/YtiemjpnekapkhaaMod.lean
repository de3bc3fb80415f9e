/- What the functions compute, in plain words. -/
import Derived.Test.YtiemjpnekapkhaaLibP
namespace Go.Proofs.Ytiemjpnekapkhaa
open Go Go.RowKit
/-! Narrow numbers -/
abbrev nadd := fadd .f32
abbrev nsub := fsub .f32
abbrev nmul := fmul .f32
abbrev ndiv := fdiv .f32
/-- The law's comparison of two wide numbers. -/
def sameD (a b : Nat) : Bool := bif (bif fne .f64 a a then true else fne .f64 b b) then (bif fne .f64 a a then fne .f64 b b else false)
  else (bif (bif feq .f64 a 0 then feq .f64 b 0 else false) then (fgt .f64 (fdiv .f64 4607182418800017408 a) 0 == fgt .f64 (fdiv .f64 4607182418800017408 b) 0) else feq .f64 a b)
theorem sameD_self (a : Nat) : sameD a a = true := by
  unfold sameD
  cases h : fne .f64 a a
  · have : feq .f64 a a = true := by
      unfold fne at h
      unfold feq
      cases hq : FloatKind.f64.format.order a a == some .eq
      · rw [bne, hq] at h; cases h
      · rfl
    cases feq .f64 a 0 <;> simp [this]
  · rfl
def minor (a b c d : Nat) : Nat := nsub (nmul a d) (nmul b c)
def turnsLeft (a0 a1 b0 b1 c0 c1 : Nat) : Nat := minor (nsub b0 a0) (nsub b1 a1) (nsub c0 a0) (nsub c1 a1)
def detOf (a b c d e f g h i : Nat) : Nat := nadd (nsub (nmul a (minor e f h i)) (nmul b (minor d f g i))) (nmul c (minor d e g h))
end Go.Proofs.Ytiemjpnekapkhaa
