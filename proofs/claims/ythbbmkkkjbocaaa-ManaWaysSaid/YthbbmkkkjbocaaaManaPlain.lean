/- Plain functions: what mana is paid with, as numbers. No program in sight. -/
import Derived.WalkKit
namespace Go.Proofs.Ythbbmkkkjbocaaa

def cl (n : Int) : Int := if n < 0 then 0 else if 999 < n then 999 else n
def mx0 (n : Int) : Int := if n < 0 then 0 else n
def mn9 (n : Int) : Int := if 999 < n then 999 else n
theorem mn_mx (n : Int) : mn9 (mx0 n) = cl n := by unfold mn9 mx0 cl; (repeat' split) <;> omega
theorem cl_bd (n : Int) : 0 ≤ cl n ∧ cl n ≤ 999 := by unfold cl; split <;> (try split) <;> omega
theorem cl_in (n : Int) (h0 : 0 ≤ n) (h1 : n ≤ 999) : cl n = n := by unfold cl; rw [if_neg (by omega), if_neg (by omega)]
theorem cl_cl (n : Int) : cl (cl n) = cl n := cl_in _ (cl_bd n).1 (cl_bd n).2
def imin (x y : Int) : Int := if y < x then y else x
theorem imin_bd (x y : Int) (hx : 0 ≤ x) (hy : 0 ≤ y) : 0 ≤ imin x y ∧ imin x y ≤ x ∧ imin x y ≤ y := by unfold imin; split <;> omega

abbrev mana (a b c d : Int) : Value := .agg #[.int .i64 a, .int .i64 b, .int .i64 c, .int .i64 d]
abbrev bl (t : Nat) (a b c d : Int) : Obj := .cells #[.int .i64 a, .int .i64 b, .int .i64 c, .int .i64 d] t

/-- It can be paid (all numbers from 0 to 999). -/
def can (a b c d x y z u : Int) : Prop := x ≤ a ∧ y ≤ b ∧ z ≤ c ∧ u ≤ d + (a - x) + (b - y) + (c - z)
instance (a b c d x y z u : Int) : Decidable (can a b c d x y z u) := by unfold can; exact inferInstance
/-- What is left of none, red, green, blue, in this order. -/
def left3 (d u : Int) : Int := d - imin d u
def left0 (a d x u : Int) : Int := a - x - imin (a - x) (u - imin d u)
def left1 (a b d x y u : Int) : Int := b - y - imin (b - y) (u - imin d u - imin (a - x) (u - imin d u))
def left2 (a b c d x y z u : Int) : Int := c - z - imin (c - z) (u - imin d u - imin (a - x) (u - imin d u) - imin (b - y) (u - imin d u - imin (a - x) (u - imin d u)))
def payV (a b c d x y z u : Int) : Value :=
  if can a b c d x y z u then .tuple #[mana (left0 a d x u) (left1 a b d x y u) (left2 a b c d x y z u) (left3 d u), .int .i64 0] else .tuple #[mana a b c d, .int .i64 13]
theorem payV_no {a b c d x y z u : Int} (h : ¬ can a b c d x y z u) : payV a b c d x y z u = .tuple #[mana a b c d, .int .i64 13] := if_neg h
theorem payV_yes {a b c d x y z u : Int} (h : can a b c d x y z u) : payV a b c d x y z u = .tuple #[mana (left0 a d x u) (left1 a b d x y u) (left2 a b c d x y z u) (left3 d u), .int .i64 0] := if_pos h
end Go.Proofs.Ythbbmkkkjbocaaa
