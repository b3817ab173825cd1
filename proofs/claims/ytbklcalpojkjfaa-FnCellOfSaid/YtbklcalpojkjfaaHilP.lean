/- Hilbert's curve, as plain functions. -/
import Derived.Test.YtbklcalpojkjfaaBitsP
namespace Go.Proofs.TW
open Go.RowKit

/-- A cell of a quarter, in the square. -/
def hilQ (q : Nat) (p : Nat × Nat) (s : Nat) : Nat × Nat :=
  match q with
  | 0 => (p.2, p.1)
  | 1 => (p.1, p.2 + s)
  | 2 => (p.1 + s, p.2 + s)
  | _ => (2 * s - 1 - p.2, s - 1 - p.1)
/-- The cell of a number, in a square halved h times. -/
def hil : Nat → Nat → Nat × Nat
  | 0, _ => (0, 0)
  | h + 1, n => hilQ (n / (2 ^ h * 2 ^ h)) (hil h (n % (2 ^ h * 2 ^ h))) (2 ^ h)
theorem hil_q (h n q m s : Nat) (hs : 2 ^ h = s) (d1 : n % (s * s) = m) (d2 : n / (s * s) = q) : hil (h + 1) n = hilQ q (hil h m) s := by subst hs d1 d2; rfl
/-- The number of a cell. -/
def num : Nat → Nat → Nat → Nat
  | 0, _, _ => 0
  | h + 1, x, y =>
    let s := 2 ^ h
    if x < s then (if y < s then num h y x else s * s + num h x (y - s))
    else if s ≤ y then 2 * s * s + num h (x - s) (y - s) else 3 * s * s + num h (s - 1 - y) (2 * s - 1 - x)

theorem hil_lt : ∀ h : Nat, h < 6 → ∀ n : Nat, n < 4 ^ h → (hil h n).1 < 2 ^ h ∧ (hil h n).2 < 2 ^ h := by decide +kernel
theorem num_hil : ∀ h : Nat, h < 6 → ∀ n : Nat, n < 4 ^ h → num h (hil h n).1 (hil h n).2 = n := by decide +kernel
theorem hil_num : ∀ h : Nat, h < 6 → ∀ x : Nat, x < 2 ^ h → ∀ y : Nat, y < 2 ^ h → num h x y < 4 ^ h ∧ hil h (num h x y) = (x, y) := by decide +kernel

def hX (h n : Int) : Int := if nuOk h n then ((hil h.toNat n.toNat).1 : Nat) else 0
def hY (h n : Int) : Int := if nuOk h n then ((hil h.toNat n.toNat).2 : Nat) else 0
def hN (h x y : Int) : Int := if ceOk h x y then (num h.toNat x.toNat y.toNat : Nat) else -1
theorem hX_of {k a : Nat} (h : k < 6) (ha : a < 4 ^ k) : hX k a = ((hil k a).1 : Nat) := by unfold hX; rw [if_pos (nuOk_of h ha)]; rfl
theorem hY_of {k a : Nat} (h : k < 6) (ha : a < 4 ^ k) : hY k a = ((hil k a).2 : Nat) := by unfold hY; rw [if_pos (nuOk_of h ha)]; rfl
theorem hN_of {k a b : Nat} (h : k < 6) (ha : a < 2 ^ k) (hb : b < 2 ^ k) : hN k a b = (num k a b : Nat) := by unfold hN; rw [if_pos (ceOk_of h ha hb)]; rfl
theorem hX_no {h n : Int} (e : nuOk h n = false) : hX h n = 0 ∧ hY h n = 0 := by unfold hX hY; rw [e]; exact ⟨rfl, rfl⟩
theorem hN_no {h x y : Int} (e : ceOk h x y = false) : hN h x y = -1 := by unfold hN; rw [e]; rfl

end Go.Proofs.TW
