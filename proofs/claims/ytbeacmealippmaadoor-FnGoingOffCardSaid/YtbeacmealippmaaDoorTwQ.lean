/- Facts for FnGoingOff: which spirals go off, and which close at once. -/
import Derived.Test.YtbeacmealippmaaDoorSrP
import Derived.Test.YtbeacmealippmaaDoorOff
import Derived.Test.YtbeacmealippmaaDoorClosed
namespace Go.Proofs.YtbeacmealippmaaDoor
open Go.RowKit TW

theorem turn_look : ∀ n : Nat, n < 10 → 1 ≤ n → ∀ m : Nat, m < 2 ^ n → ((turns (spWord m n)).tmod 4 == 0) = ((tw (0, 0, 0) (spWord m n)).2.2 == 0) ∧ (n % 2 = 1 → ((tw (0, 0, 0) (spWord m n)).2.2 == 0) = false) := by decide +kernel

def four1 (n m : Nat) : Bool := (turns (spWord m n)).tmod 4 == 0
/-- How many of the first m spirals have turns that are a multiple of four. -/
def fourTo (n : Nat) : Nat → Nat
  | 0 => 0
  | m + 1 => fourTo n m + if four1 n m then 1 else 0
theorem fourTo_le (n : Nat) : ∀ m, fourTo n m ≤ m
  | 0 => Nat.le_refl _
  | m + 1 => by have := fourTo_le n m; unfold fourTo; split <;> omega

theorem off_step {n m : Nat} (h1 : 1 ≤ n) (h9 : n < 10) (hm : m < 2 ^ n) : (if srB n m then 0 else 1) + (if cl1 n m then 1 else 0) = if four1 n m then 1 else 0 := by
  have hok := spOk_of h1 (by omega) hm
  have w1 := wordFor_of hok
  have b : srB n m = roundsB (spWord m n) := by unfold srB; rw [hok, w1]; rfl
  have i : srI n m = roundsI (spWord m n) := by unfold srI; rw [hok, w1]; rfl
  have f : four1 n m = ((tw (0, 0, 0) (spWord m n)).2.2 == 0) := (turn_look n h9 h1 m hm).1
  obtain ⟨p1, p2, p3⟩ := firstBack_of (spWord m n)
  unfold cl1
  rw [b, i, f]
  unfold roundsB roundsI
  by_cases hl : (tw (0, 0, 0) (spWord m n)).2.2 = 0
  · by_cases hz : tw (0, 0, 0) (spWord m n) = (0, 0, 0)
    · rw [p1 hz, hl]; rfl
    · rw [p3 hl hz, hl]; rfl
  · obtain ⟨q1, q2⟩ := p2 hl
    have q3 : ¬ ((firstBack (spWord m n) : Int) = 1) := by omega
    simp [q1, q3, hl]

theorem off_sum {n : Nat} (h1 : 1 ≤ n) (h9 : n < 10) : ∀ m : Nat, m ≤ 2 ^ n → offTo n m + (clTo n m).length = fourTo n m
  | 0, _ => rfl
  | m + 1, hm => by
    have ih := off_sum h1 h9 m (by omega)
    have s := off_step h1 h9 (show m < 2 ^ n by omega)
    unfold offTo clTo fourTo
    cases e : cl1 n m <;> rw [e] at s <;> simp at s ⊢ <;> omega
theorem off_odd {n : Nat} (h1 : 1 ≤ n) (h9 : n < 10) (ho : n % 2 = 1) : ∀ m : Nat, m ≤ 2 ^ n → fourTo n m = 0
  | 0, _ => rfl
  | m + 1, hm => by
    have ih := off_odd h1 h9 ho m (by omega)
    obtain ⟨t1, t2⟩ := turn_look n h9 h1 m (by omega)
    have f : four1 n m = false := by unfold four1; rw [t1, t2 ho]
    unfold fourTo
    rw [ih, f]; rfl
end Go.Proofs.YtbeacmealippmaaDoor
