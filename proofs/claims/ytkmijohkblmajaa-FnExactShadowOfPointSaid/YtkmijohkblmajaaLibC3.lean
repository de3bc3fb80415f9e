/- Joining two abstract values by a bool; choosing among several by a number. -/
import Derived.Test.YtkmijohkblmajaaLibC2
namespace Go.Proofs.Ytkmijohkblmajaa
open Go Go.RowKit

def AS.port : AS → Bool
  | .ptr .. | .slc .. | .pix .. => false
  | _ => true
def AS.norm : AS → AS
  | .st (.int k n) => .c (.i k n)
  | .st (.bool b) => .c (.b b)
  | .st v => .c (.lit v)
  | .c (.ix n _) => .c (.i .i64 n)
  | x => x

def mergeAC (β : Bool) : AC → AC → Option AC
  | .f .f32 x, .f .f32 y => some (.f .f32 (bif β then x else y))
  | .f .f64 x, .f .f64 y => some (.f .f64 (bif β then x else y))
  | .b x, .b y => some (.b (bif β then x else y))
  | .g x, .g y => some (.g (bif β then x else y))
  | .i k x, .i k' y => if k = k' then some (.i k (bif β then x else y)) else none
  | _, _ => none
/-- A number that may stand as an index. -/
def AS.ix? : AS → Option (Nat × Nat)
  | .st (.int .i64 n) => if 0 ≤ n then some (n.toNat, n.toNat + 1) else none
  | .c (.ix n B) => some (n, B)
  | _ => none
def mergeAS (β : Bool) (x y : AS) : Option AS := match x.ix?, y.ix? with
  | some (n, B), some (m, C) => some (.c (.ix (bif β then n else m) (max B C)))
  | _, _ => match x.norm, y.norm with
    | .c a, .c b => (mergeAC β a b).map .c
    | _, _ => none
def mergeL (β : Bool) : List AS → List AS → Option (List AS)
  | [], [] => some []
  | x :: xs, y :: ys => match mergeAS β x y, mergeL β xs ys with
    | some z, some zs => some (z :: zs)
    | _, _ => none
  | _, _ => none
def mergeAE (β : Bool) : AE → AE → Option AE
  | .s x, .s y => (mergeAS β x y).map .s
  | .agg xs, .agg ys => (mergeL β xs ys).map .agg
  | _, _ => none

theorem norm_den {E : Env} {x : AS} {v : Value} {w : World} (h : x.den E v w) : x.norm.den E v w := by
  cases x <;> try exact h
  · rename_i c
    cases c <;> first | exact h | exact h.1
  · rename_i u
    obtain ⟨rfl, h1⟩ := h
    cases v <;> first | exact rfl | exact ⟨rfl, h1⟩
theorem ix?_den {E : Env} {x : AS} {n B : Nat} {v : Value} {w : World} (h : x.ix? = some (n, B)) (hd : x.den E v w) : v = .int .i64 n ∧ n < B := by
  unfold AS.ix? at h
  split at h
  · split at h
    · cases h
      obtain ⟨rfl, _⟩ := hd
      exact ⟨by rw [Int.toNat_of_nonneg (by assumption)], Nat.lt_succ_self _⟩
    · cases h
  · cases h; exact hd
  · cases h

theorem mergeAC_den {β : Bool} {x y z : AC} (h : mergeAC β x y = some z) {v : Value} (hv : if β then x.den v else y.den v) : z.den v := by
  unfold mergeAC at h
  split at h <;> (try split at h) <;> cases h <;> cases β <;> first | exact hv | (rename_i e; subst e; exact hv)
theorem mergeAS_den {E : Env} {w : World} {β : Bool} {x y z : AS} (h : mergeAS β x y = some z) {v : Value} (hv : if β then x.den E v w else y.den E v w) : z.den E v w := by
  unfold mergeAS at h
  split at h
  · rename_i n B m C e1 e2
    cases h
    cases β
    · obtain ⟨rfl, h1⟩ := ix?_den e2 (show y.den E v w from hv)
      exact ⟨rfl, Nat.lt_of_lt_of_le h1 (Nat.le_max_right _ _)⟩
    · obtain ⟨rfl, h1⟩ := ix?_den e1 (show x.den E v w from hv)
      exact ⟨rfl, Nat.lt_of_lt_of_le h1 (Nat.le_max_left _ _)⟩
  · split at h
    · rename_i a b e1 e2
      obtain ⟨c, hc, rfl⟩ := Option.map_eq_some_iff.1 h
      refine mergeAC_den hc ?_
      cases β
      · have := norm_den (show y.den E v w from hv); rw [e2] at this; exact this
      · have := norm_den (show x.den E v w from hv); rw [e1] at this; exact this
    · cases h
theorem mergeL_den {E : Env} {w : World} {β : Bool} : ∀ {xs ys zs : List AS}, mergeL β xs ys = some zs → ∀ {vs : List Value}, (if β then Each (fun (x : AS) u => x.den E u w) xs vs else Each (fun (x : AS) u => x.den E u w) ys vs) → Each (fun (x : AS) u => x.den E u w) zs vs
  | [], [], zs, h, vs, hv => by cases h; cases β <;> exact hv
  | x :: xs, y :: ys, zs, h, vs, hv => by
    simp only [mergeL] at h
    split at h
    · rename_i z zs' e1 e2
      cases h
      cases β
      · cases hv with | cons h1 h2 => exact .cons (mergeAS_den e1 h1) (mergeL_den e2 h2)
      · cases hv with | cons h1 h2 => exact .cons (mergeAS_den e1 h1) (mergeL_den e2 h2)
    · cases h
  | [], _ :: _, _, h, _, _ => by cases h
  | _ :: _, [], _, h, _, _ => by cases h
theorem mergeAE_den {E : Env} {w : World} {β : Bool} {x y z : AE} (h : mergeAE β x y = some z) {v : Value} (hv : if β then x.den E v w else y.den E v w) : z.den E v w := by
  cases x <;> cases y <;> simp only [mergeAE] at h
  · obtain ⟨c, hc, rfl⟩ := Option.map_eq_some_iff.1 h
    exact mergeAS_den hc hv
  · cases h
  · cases h
  · obtain ⟨c, hc, rfl⟩ := Option.map_eq_some_iff.1 h
    cases β
    · obtain ⟨vs, e, he⟩ := hv; exact ⟨vs, e, mergeL_den hc he⟩
    · obtain ⟨vs, e, he⟩ := hv; exact ⟨vs, e, mergeL_den hc he⟩


/-- The one at n, among those from j on. -/
def selAE (n : Nat) : Nat → List AE → Option AE
  | _, [] => none
  | _, [x] => some x
  | j, x :: y :: r => (selAE n (j + 1) (y :: r)).bind (mergeAE (n == j) x)
theorem selAE_den {E : Env} {w : World} {n : Nat} {v : Value} : ∀ {j : Nat} {xs : List AE} {z : AE}, selAE n j xs = some z → (∀ x, xs[n - j]? = some x → x.den E v w) → j ≤ n → n < j + xs.length → z.den E v w
  | _, [], _, h, _, _, _ => by cases h
  | j, [x], z, h, hx, h1, h2 => by
    simp only [selAE, Option.some.injEq] at h
    subst h
    have : n - j = 0 := by simp at h2; omega
    exact hx x (by rw [this]; rfl)
  | j, x :: y :: r, z, h, hx, h1, h2 => by
    simp only [selAE] at h
    obtain ⟨q, h3, h4⟩ := Option.bind_eq_some_iff.1 h
    refine mergeAE_den h4 ?_
    by_cases hn : n = j
    · subst hn
      simp only [BEq.rfl, if_true]
      exact hx x (by simp)
    · have : (n == j) = false := by simp [hn]
      rw [this]
      simp only [Bool.false_eq_true, if_false]
      refine selAE_den h3 (fun x' hx' => hx x' ?_) (by omega) (by simp at h2 ⊢; omega)
      have : n - j = (n - (j + 1)) + 1 := by omega
      rw [this, List.getElem?_cons_succ]; exact hx'

end Go.Proofs.Ytkmijohkblmajaa
