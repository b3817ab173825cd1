/- Contracts: GoingOff of both packages. -/
import Derived.Test.YtkcgoaidpeoniaaDoorRounds2
namespace Go.Proofs.YtkcgoaidpeoniaaDoor
open Go.RowKit TW

/-- How many of the first m spirals of an order go off. -/
def offTo (o : Nat) : Nat → Nat
  | 0 => 0
  | m + 1 => offTo o m + if srB o m then 0 else 1
theorem offTo_le (o : Nat) : ∀ m, offTo o m ≤ m
  | 0 => Nat.le_refl _
  | m + 1 => by have := offTo_le o m; unfold offTo; split <;> omega
def offI (o : Int) : Int := if (decide (1 ≤ o) && decide (o ≤ 9)) then (offTo o.toNat (2 ^ o.toNat) : Nat) else -1
theorem pow_512 : ∀ n : Nat, n < 10 → 2 ^ n ≤ 512 ∧ (2 : Int) ^ n = ((2 ^ n : Nat) : Int) := by decide +kernel

end Go.Proofs.YtkcgoaidpeoniaaDoor
