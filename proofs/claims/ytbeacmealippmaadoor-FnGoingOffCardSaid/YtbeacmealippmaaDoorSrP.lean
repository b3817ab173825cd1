/- Facts on spirals: exchanged turns, turns to the left alone. -/
import Derived.Test.YtbeacmealippmaaDoorTwP
import Derived.Test.YtbeacmealippmaaDoorRounds2
namespace Go.Proofs.YtbeacmealippmaaDoor
open Go.RowKit TW

theorem bit_other : ∀ n : Nat, n < 10 → ∀ m : Nat, m < 2 ^ n → ∀ k : Nat, k < n → (2 ^ n - 1 - m) / 2 ^ k % 2 = 1 - m / 2 ^ k % 2 := by decide +kernel
theorem word_other {n m : Nat} (hn : n < 10) (hm : m < 2 ^ n) : ∀ j : Nat, j ≤ n → spWord (2 ^ n - 1 - m) j = (spWord m j).map mirB
  | 0, _ => rfl
  | j + 1, hj => by
    have ih := word_other hn hm j (by omega)
    have b := bit_other n hn m hm j (by omega)
    have t : spTurn (2 ^ n - 1 - m) (j + 1) = mirB (spTurn m (j + 1)) := by
      unfold spTurn
      rw [Nat.add_sub_cancel, b]
      have : m / 2 ^ j % 2 = 0 ∨ m / 2 ^ j % 2 = 1 := by omega
      rcases this with e | e <;> rw [e] <;> rfl
    unfold spWord
    rw [ih, t, List.map_append, List.map_append, List.map_replicate]
    rfl

theorem sr_other {n m : Nat} (hok : spOk n m = true) : spOk n (2 ^ n - 1 - m) = true ∧ srI n (2 ^ n - 1 - m) = srI n m ∧ srB n (2 ^ n - 1 - m) = srB n m := by
  obtain ⟨n', m', e1, e2, hn, hn9, hm⟩ := spOk_nat hok
  obtain rfl : n = n' := by omega
  obtain rfl : m = m' := by omega
  have hok2 := spOk_of (m := 2 ^ n - 1 - m) hn hn9 (by omega)
  have w1 := wordFor_of hok
  have w2 := wordFor_of hok2
  have f := mir_first (spWord m n) (words_ok n (by omega) hn m hm).1
  rw [← word_other (by omega) hm n (Nat.le_refl _)] at f
  rw [other_cast hm] at hok2 w2
  refine ⟨hok2, ?_, ?_⟩
  · unfold srI
    rw [hok2, hok, w1, w2]
    show roundsI (spWord (2 ^ n - 1 - m) n) = roundsI (spWord m n)
    unfold roundsI; rw [f]
  · unfold srB
    rw [hok2, hok, w1, w2]
    show roundsB (spWord (2 ^ n - 1 - m) n) = roundsB (spWord m n)
    unfold roundsB; rw [f]

theorem left_law : ∀ n : Nat, n < 10 → 1 ≤ n → roundsB (spWord 0 n) = decide (n % 4 ≠ 0) := by decide +kernel
theorem sr_left {n : Nat} (hn : 1 ≤ n) (hn9 : n ≤ 9) : srB n 0 = decide (n % 4 ≠ 0) := by
  have hok := spOk_of (m := 0) hn hn9 (Nat.pow_pos (by omega))
  have w := wordFor_of hok
  rw [← left_law n (by omega) hn]
  unfold srB
  rw [show (0 : Int) = ((0 : Nat) : Int) from rfl, hok, w]
  rfl
theorem sr_no {o r : Int} (h : srB o r = false) : srI o r = -1 := by
  unfold srB at h
  unfold srI
  split
  · rename_i hok
    rw [if_pos hok] at h
    unfold roundsB at h
    unfold roundsI
    rw [if_pos (by simpa using h)]
  · rfl
end Go.Proofs.YtbeacmealippmaaDoor
