/- Facts for FnClosedSpirals: the list of the spirals that close at once. -/
import Derived.Test.YtkcgoaidpeoniaaDoorTwQ
import Derived.Test.YtkcgoaidpeoniaaDoorIntS3
namespace Go.Proofs.YtkcgoaidpeoniaaDoor
open Go.RowKit TW

theorem clTo_mem (n : Nat) : ∀ (m : Nat) (z : Int), z ∈ clTo n m ↔ ∃ j : Nat, j < m ∧ z = j ∧ cl1 n j = true
  | 0, z => by constructor
               · intro h; cases h
               · rintro ⟨j, h, _⟩; omega
  | m + 1, z => by
    unfold clTo
    cases h : cl1 n m with
    | false =>
      rw [if_neg (by simp), clTo_mem n m z]
      constructor
      · rintro ⟨j, h1, h2⟩; exact ⟨j, by omega, h2⟩
      · rintro ⟨j, h1, h2, h3⟩
        by_cases hj : j = m
        · subst hj; rw [h] at h3; cases h3
        · exact ⟨j, by omega, h2, h3⟩
    | true =>
      rw [if_pos rfl, List.mem_append, clTo_mem n m z]
      constructor
      · rintro (⟨j, h1, h2⟩ | h2)
        · exact ⟨j, by omega, h2⟩
        · exact ⟨m, by omega, by simpa using h2, h⟩
      · rintro ⟨j, h1, h2, h3⟩
        by_cases hj : j = m
        · subst hj; exact .inr (by simpa using h2)
        · exact .inl ⟨j, by omega, h2, h3⟩
theorem clTo_asc (n : Nat) : ∀ m : Nat, Asc (clTo n m)
  | 0 => fun k h => absurd h (by unfold clTo; simp)
  | m + 1 => by
    have ih := clTo_asc n m
    unfold clTo
    split
    · intro k hk
      rw [List.length_append] at hk
      have hk' : k + 1 < (clTo n m).length + 1 := hk
      by_cases hl : k + 1 < (clTo n m).length
      · rw [List.getElem?_append_left (by omega), List.getElem?_append_left hl]
        exact ih k hl
      · have e : k + 1 = (clTo n m).length := by omega
        rw [List.getElem?_append_left (by omega), List.getElem?_append_right (by omega), e]
        have hm := (clTo_mem n m ((clTo n m)[k]?.getD 0)).1 (by rw [List.getElem?_eq_getElem (show k < (clTo n m).length by omega)]; exact List.getElem_mem _)
        obtain ⟨j, h1, h2, _⟩ := hm
        rw [h2]
        simp
        omega
    · exact ih
/-- One that closes at once leads back; and so does the other one. -/
theorem cl1_facts {n j : Nat} (h1 : 1 ≤ n) (h9 : n < 10) (hj : j < 2 ^ n) (h : cl1 n j = true) : tw (0, 0, 0) (spWord j n) = (0, 0, 0) ∧ cl1 n (2 ^ n - 1 - j) = true := by
  have hok := spOk_of h1 (by omega) hj
  have w1 := wordFor_of hok
  have b : srB n j = roundsB (spWord j n) := by unfold srB; rw [hok, w1]; rfl
  have i : srI n j = roundsI (spWord j n) := by unfold srI; rw [hok, w1]; rfl
  obtain ⟨o1, o2, o3⟩ := sr_other hok
  have h' := h
  unfold cl1 at h
  rw [b, i] at h
  obtain ⟨p1, p2, p3⟩ := firstBack_of (spWord j n)
  refine ⟨?_, ?_⟩
  · by_cases hl : (tw (0, 0, 0) (spWord j n)).2.2 = 0
    · by_cases hz : tw (0, 0, 0) (spWord j n) = (0, 0, 0)
      · exact hz
      · unfold roundsB at h; rw [p3 hl hz] at h; simp at h
    · obtain ⟨q1, q2⟩ := p2 hl
      unfold roundsB roundsI at h
      simp [q1] at h
      omega
  · unfold cl1 at h' ⊢
    have e : ((2 ^ n - 1 - j : Nat) : Int) = 2 ^ n - 1 - j := other_cast hj
    rw [e, o2, o3]
    exact h'
/-- What lies in the list of an order. -/
theorem clL_at {x : Int} {k : Nat} (hk : k < (clL' x).length) : ∃ n j : Nat, x = n ∧ 1 ≤ n ∧ n < 10 ∧ j < 2 ^ n ∧ (clL' x)[k]?.getD 0 = j ∧ spOk n j = true ∧ tw (0, 0, 0) (wordFor n j).data.toList = (0, 0, 0) ∧ (((2 ^ n : Nat) : Int) - 1 - j) ∈ clL' x := by
  unfold clL' at hk ⊢
  split at hk
  · rename_i h
    rw [if_pos h]
    simp only [Bool.and_eq_true, decide_eq_true_eq] at h
    obtain ⟨n, rfl⟩ := Int.eq_ofNat_of_zero_le (show 0 ≤ x by omega)
    rw [Int.toNat_natCast] at hk ⊢
    have hm := (clTo_mem n (2 ^ n) ((clTo n (2 ^ n))[k]?.getD 0)).1 (by rw [List.getElem?_eq_getElem hk]; exact List.getElem_mem _)
    obtain ⟨j, h1, h2, h3⟩ := hm
    obtain ⟨g1, g2⟩ := cl1_facts (by omega) (by omega) h1 h3
    have hok := spOk_of (show 1 ≤ n by omega) (by omega) h1
    refine ⟨n, j, rfl, by omega, by omega, h1, h2, hok, ?_, ?_⟩
    · rw [wordFor_of hok]; exact g1
    · exact (clTo_mem n (2 ^ n) _).2 ⟨2 ^ n - 1 - j, by omega, by omega, g2⟩
  · cases hk
end Go.Proofs.YtkcgoaidpeoniaaDoor
