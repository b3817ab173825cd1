/- Woven numbers, as plain functions; the program's shifts and masks are these, number by number. -/
import Derived.RowKit
import Derived.Laws.Entries
namespace Go.Proofs.TW
open Go.RowKit

/-- The bits of x and y by turns, k of each. -/
def wvTo (x y : Nat) : Nat → Nat
  | 0 => 0
  | k + 1 => wvTo x y k + x / 2 ^ k % 2 * 4 ^ k + y / 2 ^ k % 2 * (2 * 4 ^ k)
/-- Every second bit, k of them. -/
def unTo (n : Nat) : Nat → Nat
  | 0 => 0
  | k + 1 => unTo n k + n / 4 ^ k % 2 * 2 ^ k
def wv (x y : Nat) : Nat := wvTo x y 5
def un (n : Nat) : Nat := unTo n 5

def spreadI (n : Int) : Int :=
  bits .and .i64 (bits .or .i64 (bits .and .i64 (bits .or .i64 (bits .and .i64 (bits .or .i64 n (n * 16)) 3855) (wrap64 (bits .and .i64 (bits .or .i64 n (n * 16)) 3855 * 4))) 13107)
    (wrap64 (bits .and .i64 (bits .or .i64 (bits .and .i64 (bits .or .i64 n (n * 16)) 3855) (wrap64 (bits .and .i64 (bits .or .i64 n (n * 16)) 3855 * 4))) 13107 * 2))) 21845
theorem spreadI_eq : ∀ n : Nat, n < 32 → spreadI n = (wv n 0 : Nat) := by decide +kernel

theorem wv_lt : ∀ x : Nat, x < 32 → ∀ y : Nat, y < 32 → wv x y < 1024 := by decide +kernel
theorem un_wv : ∀ x : Nat, x < 32 → ∀ y : Nat, y < 32 → un (wv x y) = x ∧ un (wv x y / 2) = y := by decide +kernel
theorem wv_un : ∀ n : Nat, n < 1024 → wv (un n) (un (n / 2)) = n ∧ un n < 32 ∧ un (n / 2) < 32 := by decide +kernel
/-- In a square that is halved h times. -/
theorem unTo_eq : ∀ h : Nat, h < 6 → ∀ n : Nat, n < 4 ^ h → unTo n h = un n ∧ unTo (n / 2) h = un (n / 2) ∧ un n < 2 ^ h ∧ un (n / 2) < 2 ^ h := by decide +kernel
theorem wv_small : ∀ h : Nat, h < 6 → ∀ x : Nat, x < 2 ^ h → ∀ y : Nat, y < 2 ^ h → wv x y < 4 ^ h := by decide +kernel

def gathI (n : Int) : Int :=
  bits .and .i64 (bits .or .i64 (bits .and .i64 (bits .or .i64 (bits .and .i64 (bits .or .i64 (bits .and .i64 n 21845) (bits .and .i64 n 21845 / 2)) 13107) (bits .and .i64 (bits .or .i64 (bits .and .i64 n 21845) (bits .and .i64 n 21845 / 2)) 13107 / 4)) 3855)
    (bits .and .i64 (bits .or .i64 (bits .and .i64 (bits .or .i64 (bits .and .i64 n 21845) (bits .and .i64 n 21845 / 2)) 13107) (bits .and .i64 (bits .or .i64 (bits .and .i64 n 21845) (bits .and .i64 n 21845 / 2)) 13107 / 4)) 3855 / 16)) 255
theorem gathI_eq : ∀ n : Nat, n < 1024 → gathI n = (un n : Nat) := by decide +kernel
theorem wrap_pow : ∀ k : Nat, k < 63 → wrap64 (2 ^ k) = 2 ^ k := by decide +kernel
theorem wrap_pow1 : ∀ k : Nat, k < 63 → wrap64 (2 ^ k - 1) = 2 ^ k - 1 := by decide +kernel
theorem le_pred (a b : Int) : decide (a ≤ b - 1) = decide (a < b) := by simp only [decide_eq_decide]; omega
theorem pow_le32 : ∀ h : Nat, h < 6 → (2 : Int) ^ h ≤ 32 ∧ 2 ^ h ≤ 32 ∧ (1 : Int) ≤ 2 ^ h ∧ (2 : Int) ^ (2 * h) ≤ 1024 ∧ (1 : Int) ≤ 2 ^ (2 * h) ∧ 2 ^ (2 * h) = 4 ^ h := by decide +kernel
theorem cast_pow (h : Nat) : ((2 ^ h : Nat) : Int) = 2 ^ h := by simp
theorem lt_pow {x h : Nat} (hx : (x : Int) < 2 ^ h) : x < 2 ^ h := by rw [← cast_pow] at hx; omega

/-- May a square be halved so often? -/
def hvOk (h : Int) : Bool := decide (0 ≤ h) && decide (h ≤ 5)
/-- Is the cell in the square? -/
def ceOk (h x y : Int) : Bool := hvOk h && (decide (0 ≤ x) && decide (x < 2 ^ h.toNat)) && (decide (0 ≤ y) && decide (y < 2 ^ h.toNat))
/-- Is the number in the square? -/
def nuOk (h n : Int) : Bool := hvOk h && (decide (0 ≤ n) && decide (n < 2 ^ (2 * h.toNat)))
theorem hvOk_nat {h : Int} (e : hvOk h = true) : ∃ k : Nat, h = k ∧ k < 6 := by
  unfold hvOk at e; simp only [Bool.and_eq_true, decide_eq_true_eq] at e
  exact ⟨h.toNat, by omega, by omega⟩
theorem hvOk_of {k : Nat} (h : k < 6) : hvOk (k : Int) = true := by unfold hvOk; simp; omega
theorem ceOk_nat {h x y : Int} (e : ceOk h x y = true) : ∃ k a b : Nat, h = k ∧ x = a ∧ y = b ∧ k < 6 ∧ a < 2 ^ k ∧ b < 2 ^ k := by
  unfold ceOk at e; simp only [Bool.and_eq_true, decide_eq_true_eq] at e
  obtain ⟨⟨e1, e2, e3⟩, e4, e5⟩ := e
  obtain ⟨k, rfl, hk⟩ := hvOk_nat e1
  simp only [Int.toNat_natCast] at e3 e5
  exact ⟨k, x.toNat, y.toNat, rfl, by omega, by omega, hk, lt_pow (by omega), lt_pow (by omega)⟩
theorem ceOk_of {k a b : Nat} (h : k < 6) (ha : a < 2 ^ k) (hb : b < 2 ^ k) : ceOk k a b = true := by
  unfold ceOk; rw [hvOk_of h]
  have h1 : (a : Int) < 2 ^ k := by rw [← cast_pow]; omega
  have h2 : (b : Int) < 2 ^ k := by rw [← cast_pow]; omega
  simp [h1, h2]
theorem nuOk_nat {h n : Int} (e : nuOk h n = true) : ∃ k a : Nat, h = k ∧ n = a ∧ k < 6 ∧ a < 4 ^ k := by
  unfold nuOk at e; simp only [Bool.and_eq_true, decide_eq_true_eq] at e
  obtain ⟨e1, e2, e3⟩ := e
  obtain ⟨k, rfl, hk⟩ := hvOk_nat e1
  simp only [Int.toNat_natCast] at e3
  refine ⟨k, n.toNat, rfl, by omega, hk, ?_⟩
  rw [← (pow_le32 k hk).2.2.2.2.2]
  exact lt_pow (by omega)
theorem nuOk_of {k a : Nat} (h : k < 6) (ha : a < 4 ^ k) : nuOk k a = true := by
  unfold nuOk; rw [hvOk_of h]
  have h1 : (a : Int) < 2 ^ (2 * k) := by
    rw [← cast_pow, (pow_le32 k h).2.2.2.2.2]; omega
  simp [h1]
/-- The woven number, or -1. -/
def woI (h x y : Int) : Int := if ceOk h x y then (wv x.toNat y.toNat : Nat) else -1
def unX (h n : Int) : Int := if nuOk h n then (un n.toNat : Nat) else 0
def unY (h n : Int) : Int := if nuOk h n then (un (n.toNat / 2) : Nat) else 0
theorem woI_of {k a b : Nat} (h : k < 6) (ha : a < 2 ^ k) (hb : b < 2 ^ k) : woI k a b = (wv a b : Nat) := by unfold woI; rw [if_pos (ceOk_of h ha hb)]; rfl
theorem unX_of {k a : Nat} (h : k < 6) (ha : a < 4 ^ k) : unX k a = (un a : Nat) := by unfold unX; rw [if_pos (nuOk_of h ha)]; rfl
theorem unY_of {k a : Nat} (h : k < 6) (ha : a < 4 ^ k) : unY k a = (un (a / 2) : Nat) := by unfold unY; rw [if_pos (nuOk_of h ha)]; rfl
end Go.Proofs.TW
