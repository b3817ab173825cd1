/- Contracts: WovenOf, UnwovenOf, l9Woven of both packages. -/
import Derived.Test.YtbklcalpojkjfaaDoorBits1
import Derived.Deep.QuietTactic
import Derived.BigQuiet
namespace Go.Proofs.YtbklcalpojkjfaaDoor
open Go.RowKit TW

/-- spread(x) | spread(y)<<1. -/
theorem join_eq : ∀ x : Nat, x < 32 → ∀ y : Nat, y < 32 → bits .or .i64 (wv x 0 : Nat) ((wv y 0 : Nat) * 2) = (wv x y : Nat) := by decide +kernel
theorem wv0_lt : ∀ x : Nat, x < 32 → wv x 0 < 1024 := by decide +kernel

theorem unTo_lt : ∀ a : Nat, a < 1024 → ∀ j : Nat, j < 6 → unTo a j < 32 ∧ unTo (a / 2) j < 32 := by decide +kernel
theorem unTo_step (a j X Y : Nat) (h : X = unTo a j ∧ Y = unTo (a / 2) j) : X + a / 4 ^ j % 2 * 2 ^ j = unTo a (j + 1) ∧ Y + a / 2 / 4 ^ j % 2 * 2 ^ j = unTo (a / 2) (j + 1) := by
  obtain ⟨rfl, rfl⟩ := h; exact ⟨rfl, rfl⟩

end Go.Proofs.YtbklcalpojkjfaaDoor
