/- The letters of Hilbert's curve. Plain Lean. -/
import Derived.Test.YtbklcalpojkjfaaDoorHilP
import Derived.Test.YtbklcalpojkjfaaDoorSpWordP
namespace Go.Proofs.TW
open Go.RowKit

/-- The direction from the cell of a number to that of the next one. -/
def cvD (h n : Nat) : Nat :=
  let p := hil h n; let q := hil h (n + 1)
  if q.1 = p.1 + 1 then 0 else if q.2 = p.2 + 1 then 1 else if p.1 = q.1 + 1 then 2 else 3
def cvC : Nat → UInt8
  | 0 => 101
  | 1 => 110
  | 2 => 119
  | _ => 115
/-- The letters of the steps to the numbers 1 .. m. -/
def cvW (h : Nat) : Nat → List UInt8
  | 0 => []
  | m + 1 => cvW h m ++ [cvC (cvD h m)]
theorem cvW_length (h : Nat) : ∀ m : Nat, (cvW h m).length = m
  | 0 => rfl
  | m + 1 => by rw [cvW, List.length_append, cvW_length h m]; rfl
def CvStep (p q : Nat × Nat) (d : Nat) : Prop :=
  (d = 0 ∧ q.1 = p.1 + 1 ∧ q.2 = p.2) ∨ (d = 1 ∧ q.1 = p.1 ∧ q.2 = p.2 + 1) ∨ (d = 2 ∧ p.1 = q.1 + 1 ∧ q.2 = p.2) ∨ (d = 3 ∧ q.1 = p.1 ∧ p.2 = q.2 + 1)
instance (p q : Nat × Nat) (d : Nat) : Decidable (CvStep p q d) := inferInstanceAs (Decidable (_ ∨ _))
theorem cv_step : ∀ h : Nat, h < 6 → ∀ n : Nat, n < 4 ^ h → n + 1 < 4 ^ h → CvStep (hil h n) (hil h (n + 1)) (cvD h n) := by decide +kernel
theorem pow4 : ∀ k : Nat, k < 6 → (2 : Int) ^ (2 * k) = ((4 ^ k : Nat) : Int) ∧ 4 ^ k ≤ 1024 := by decide +kernel
/-- The curve's walk, as a text. -/
def curveS (h : Int) : ByteArray := if hvOk h then strOf (cvW h.toNat (4 ^ h.toNat - 1)) else ByteArray.empty
theorem curve_snoc (h m : Nat) (d : Nat) (hd : cvD h m = d) : strOf (cvW h m) ++ ⟨#[cvC d]⟩ = strOf (cvW h (m + 1)) := by
  subst hd
  have e : strOf (cvW h (m + 1)) = strOf (cvW h m) ++ strOf [cvC (cvD h m)] := by rw [strOf_append]; rfl
  rw [e]; rfl
end Go.Proofs.TW
