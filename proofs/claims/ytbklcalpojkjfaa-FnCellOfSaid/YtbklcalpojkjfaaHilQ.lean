/- Hilbert's curve, as the program goes: level by level. -/
import Derived.Test.YtbklcalpojkjfaaHilP
namespace Go.Proofs.TW
open Go.RowKit

/-- Where a quarter lies after a turn. -/
def pE (t e n : Nat) : Nat := if t % 2 = 0 then (if t / 2 = 0 then e else 1 - e) else (if t / 2 = 0 then n else 1 - n)
def pN (t e n : Nat) : Nat := if t % 2 = 0 then (if t / 2 = 0 then n else 1 - n) else (if t / 2 = 0 then e else 1 - e)
/-- Where the quarter of a number lies in a square that lies so, and how the curve lies in it (tables: 16 of each). -/
def qE (t q : Nat) : Nat := [0, 0, 1, 1, 0, 1, 1, 0, 1, 1, 0, 0, 1, 0, 0, 1].getD (4 * t + q) 0
def qN (t q : Nat) : Nat := [0, 1, 1, 0, 0, 0, 1, 1, 1, 0, 0, 1, 1, 1, 0, 0].getD (4 * t + q) 0
def qT (t q : Nat) : Nat := [1, 0, 0, 3, 0, 1, 1, 2, 3, 2, 2, 1, 2, 3, 3, 0].getD (4 * t + q) 0
/-- The number of the quarter that lies there. -/
def qD (t e n : Nat) : Nat := [0, 1, 3, 2, 0, 3, 1, 2, 2, 3, 1, 0, 2, 1, 3, 0].getD (4 * t + 2 * e + n) 0
theorem q_bd : ∀ t : Nat, t < 4 → ∀ q : Nat, q < 4 → qE t q < 2 ∧ qN t q < 2 ∧ qT t q < 4 := by decide +kernel
theorem qD_bd : ∀ t : Nat, t < 4 → ∀ e : Nat, e < 2 → ∀ n : Nat, n < 2 → qD t e n < 4 := by decide +kernel

/-- The cell and the turn after so many levels. -/
def cst (k n : Nat) : Nat → Nat × Nat × Nat
  | 0 => (0, 0, 0)
  | j + 1 => (2 * (cst k n j).1 + qE (cst k n j).2.2 (n / 4 ^ (k - 1 - j) % 4), 2 * (cst k n j).2.1 + qN (cst k n j).2.2 (n / 4 ^ (k - 1 - j) % 4), qT (cst k n j).2.2 (n / 4 ^ (k - 1 - j) % 4))
theorem cst_bd (k n : Nat) : ∀ j : Nat, (cst k n j).1 < 2 ^ j ∧ (cst k n j).2.1 < 2 ^ j ∧ (cst k n j).2.2 < 4
  | 0 => by simp [cst]
  | j + 1 => by
    obtain ⟨h1, h2, h3⟩ := cst_bd k n j
    have h4 := q_bd _ h3 (n / 4 ^ (k - 1 - j) % 4) (by omega)
    refine ⟨?_, ?_, h4.2.2⟩
    · show 2 * (cst k n j).1 + _ < _; rw [Nat.pow_succ]; omega
    · show 2 * (cst k n j).2.1 + _ < _; rw [Nat.pow_succ]; omega
theorem cst_hil : ∀ k : Nat, k < 6 → ∀ n : Nat, n < 4 ^ k → (cst k n k).1 = (hil k n).1 ∧ (cst k n k).2.1 = (hil k n).2 := by decide +kernel
/-- The number and the turn after so many levels. -/
def nst (k x y : Nat) : Nat → Nat × Nat
  | 0 => (0, 0)
  | j + 1 => (4 * (nst k x y j).1 + qD (nst k x y j).2 (x / 2 ^ (k - 1 - j) % 2) (y / 2 ^ (k - 1 - j) % 2), qT (nst k x y j).2 (qD (nst k x y j).2 (x / 2 ^ (k - 1 - j) % 2) (y / 2 ^ (k - 1 - j) % 2)))
theorem nst_bd (k x y : Nat) : ∀ j : Nat, (nst k x y j).1 < 4 ^ j ∧ (nst k x y j).2 < 4
  | 0 => by simp [nst]
  | j + 1 => by
    obtain ⟨h1, h3⟩ := nst_bd k x y j
    have h4 := qD_bd _ h3 (x / 2 ^ (k - 1 - j) % 2) (by omega) (y / 2 ^ (k - 1 - j) % 2) (by omega)
    refine ⟨?_, (q_bd _ h3 _ h4).2.2⟩
    show 4 * (nst k x y j).1 + _ < _; rw [Nat.pow_succ]; omega
theorem nst_num : ∀ k : Nat, k < 6 → ∀ x : Nat, x < 2 ^ k → ∀ y : Nat, y < 2 ^ k → (nst k x y k).1 = num k x y := by decide +kernel
end Go.Proofs.TW
