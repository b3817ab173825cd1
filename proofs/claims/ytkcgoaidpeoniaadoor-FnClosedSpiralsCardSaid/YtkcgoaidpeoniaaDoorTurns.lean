/- Contract: TurnsOf. -/
import Derived.Test.YtkcgoaidpeoniaaDoorAlive
namespace Go.Proofs.YtkcgoaidpeoniaaDoor
open Go.RowKit

/-- L counts 1, R counts -1. -/
def turn1 (b : UInt8) : Int := if ((b.toNat : Int) == 76) then 1 else if ((b.toNat : Int) == 82) then -1 else 0
def turns (l : List UInt8) : Int := (l.map turn1).sum
theorem turns_snoc (l : List UInt8) (b : UInt8) : turns (l ++ [b]) = turns l + turn1 b := by simp [turns]
theorem turn1_L {b : UInt8} (h : ((b.toNat : Int) == 76) = true) : turn1 b = 1 := by unfold turn1; rw [if_pos h]
theorem turn1_R {b : UInt8} (h0 : ((b.toNat : Int) == 76) = false) (h : ((b.toNat : Int) == 82) = true) : turn1 b = -1 := by unfold turn1; rw [if_neg (by rw [h0]; decide), if_pos h]
theorem turn1_N {b : UInt8} (h0 : ((b.toNat : Int) == 76) = false) (h : ((b.toNat : Int) == 82) = false) : turn1 b = 0 := by unfold turn1; rw [if_neg (by rw [h0]; decide), if_neg (by rw [h]; decide)]
theorem turn1_le (b : UInt8) : -1 ≤ turn1 b ∧ turn1 b ≤ 1 := by unfold turn1; (repeat' split) <;> omega
theorem turns_le : ∀ l : List UInt8, -(l.length : Int) ≤ turns l ∧ turns l ≤ l.length
  | [] => by simp [turns]
  | b :: l => by
    have h := turns_le l
    have h1 := turn1_le b
    simp only [turns, List.map_cons, List.sum_cons, List.length_cons] at h ⊢
    omega
theorem turns_take {s : ByteArray} {k : Nat} (h : k < s.size) : turns (s.data.toList.take (k + 1)) = turns (s.data.toList.take k) + turn1 s[k] := by rw [take_snoc s k h, turns_snoc]

/-- What TurnsOf gives. -/
def turnsOf (s : ByteArray) : Int := if wordOk s then turns s.data.toList else 0

end Go.Proofs.YtkcgoaidpeoniaaDoor
