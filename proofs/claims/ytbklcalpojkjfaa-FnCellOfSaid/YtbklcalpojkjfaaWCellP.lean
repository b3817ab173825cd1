/- Facts for FnCellOf. -/
import Derived.Test.YtbklcalpojkjfaaHil4
namespace Go.Proofs.Ytbklcalpojkjfaa
open Go.RowKit TW

def NextLaw (x y p q : Nat) : Prop := ((p : Int) - x) * ((p : Int) - x) + ((q : Int) - y) * ((q : Int) - y) = 1 ∧ 0 ≤ ((p : Int) - x) * ((p : Int) - x) ∧ ((p : Int) - x) * ((p : Int) - x) ≤ 1 ∧ 0 ≤ ((q : Int) - y) * ((q : Int) - y) ∧ ((q : Int) - y) * ((q : Int) - y) ≤ 1
instance (x y p q : Nat) : Decidable (NextLaw x y p q) := inferInstanceAs (Decidable (_ ∧ _ ∧ _ ∧ _ ∧ _))
theorem next_law : ∀ k : Nat, k < 6 → ∀ n : Nat, n < 4 ^ k → n + 1 < 4 ^ k → NextLaw (hil k n).1 (hil k n).2 (hil k (n + 1)).1 (hil k (n + 1)).2 := by decide +kernel
theorem low_law : ∀ k : Nat, k < 6 → ∀ n : Nat, n < 4 ^ k → k = 0 ∨ ((2 * (hil k n).1 < 2 ^ k ∧ 2 * (hil k n).2 < 2 ^ k) ↔ 4 * n < 4 ^ k) := by decide +kernel
theorem two_four : ∀ k : Nat, k < 6 → ((2 ^ k : Nat) : Int) * ((2 ^ k : Nat) : Int) = ((4 ^ k : Nat) : Int) := by decide
theorem pow_q : ∀ k : Nat, k < 6 → 4 ^ k ≤ 1024 ∧ 2 ^ k ≤ 32 ∧ 1 ≤ 2 ^ k := by decide
theorem nuOk_end {k n : Nat} (hk : k < 6) (h : ¬ n + 1 < 4 ^ k) : nuOk k ((n : Int) + 1) = false := by
  cases e : nuOk k ((n : Int) + 1) with
  | false => rfl
  | true =>
    obtain ⟨k', a, e1, e2, _, ha⟩ := nuOk_nat e
    obtain rfl : k = k' := by omega
    obtain rfl : a = n + 1 := by omega
    exact absurd ha h

end Go.Proofs.Ytbklcalpojkjfaa
