/- Facts on all words of spirals, by trying them all. -/
import Derived.Test.YtbeacmealippmaaDoorSpWord
import Derived.Test.YtbeacmealippmaaDoorTurns
namespace Go.Proofs.YtbeacmealippmaaDoor
open Go.RowKit TW

theorem words_ok : ∀ n : Nat, n < 10 → 1 ≤ n → ∀ m : Nat, m < 2 ^ n → (spWord m n).all isLetter = true ∧ 2 * (spWord m n).length = n * (n + 1) + 2 * n ∧ turns (spWord (2 ^ n - 1 - m) n) = - turns (spWord m n) ∧ spWord m n ≠ [] ∧ (spWord m n).length ≤ 54 := by decide +kernel

theorem wordFor_of {n m : Nat} (h : spOk n m = true) : wordFor n m = strOf (spWord m n) := by unfold wordFor; rw [if_pos h]; rfl
theorem spOk_of {n m : Nat} (h1 : 1 ≤ n) (h2 : n ≤ 9) (h3 : m < 2 ^ n) : spOk n m = true := by
  unfold spOk
  have e : (m : Int) < 2 ^ n := by have : ((2 ^ n : Nat) : Int) = 2 ^ n := by simp
                                   omega
  simp [e]; omega
theorem wordOk_str {l : List UInt8} (h : l.length ≤ 256) (ha : l.all isLetter = true) : wordOk (strOf l) = true := by
  unfold wordOk; rw [strOf_size, strOf_toList, ha]; simp [h]
/-- With all turns exchanged. -/
theorem other_cast {n m : Nat} (h : m < 2 ^ n) : ((2 ^ n - 1 - m : Nat) : Int) = 2 ^ n - 1 - m := by
  have : ((2 ^ n : Nat) : Int) = 2 ^ n := by simp
  omega

/-- What the law on words of spirals asks. -/
structure SpFacts (n m : Nat) : Prop where
  ok : wordOk (wordFor n m) = true
  ok2 : wordOk (wordFor n (2 ^ n - 1 - m)) = true
  turn : turnsOf (wordFor n (2 ^ n - 1 - m)) = - turnsOf (wordFor n m)
  size : 2 * (wordFor n m).size = n * (n + 1) + 2 * n
  le : (wordFor n m).size ≤ 54
  le2 : (wordFor n (2 ^ n - 1 - m)).size ≤ 54
  ne : (wordFor n m).toList.isEmpty = false
  bd : -256 ≤ turnsOf (wordFor n m) ∧ turnsOf (wordFor n m) ≤ 256

theorem toList_strOf (l : List UInt8) : (strOf l).toList = l := by
  rw [ByteArray.toList_eq]; rfl

theorem spFacts {n m : Nat} (hok : spOk n m = true) : SpFacts n m := by
  obtain ⟨n', m', e1, e2, hn, hn9, hm⟩ := spOk_nat hok
  obtain rfl : n = n' := by omega
  obtain rfl : m = m' := by omega
  obtain ⟨f1, f2, f3, f4, f5⟩ := words_ok n (by omega) hn m hm
  have hw1 := wordFor_of hok
  have hok2 := spOk_of (m := 2 ^ n - 1 - m) hn hn9 (by omega)
  obtain ⟨f1', _, _, _, f5'⟩ := words_ok n (by omega) hn (2 ^ n - 1 - m) (by omega)
  have hw2 := wordFor_of hok2
  rw [other_cast hm] at hw2
  have g1 : wordOk (wordFor n m) = true := by rw [hw1]; exact wordOk_str (by omega) f1
  have g2 : wordOk (wordFor n (2 ^ n - 1 - m)) = true := by rw [hw2]; exact wordOk_str (by omega) f1'
  refine ⟨g1, g2, ?_, ?_, ?_, ?_, ?_, ?_⟩
  · unfold turnsOf; rw [g1, g2, hw1, hw2]; exact f3
  · rw [hw1, strOf_size]; exact f2
  · rw [hw1, strOf_size]; exact f5
  · rw [hw2, strOf_size]; exact f5'
  · rw [hw1, toList_strOf]; simp [f4]
  · unfold turnsOf; rw [g1, hw1]
    have := turns_le (spWord m n)
    show -256 ≤ turns (spWord m n) ∧ turns (spWord m n) ≤ 256
    omega
end Go.Proofs.YtbeacmealippmaaDoor
