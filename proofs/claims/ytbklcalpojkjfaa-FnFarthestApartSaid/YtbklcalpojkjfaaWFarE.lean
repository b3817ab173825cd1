/- FarthestApart: the contracts for all arguments, and the walk of FnExactFarthestApart. -/
import Derived.Test.YtbklcalpojkjfaaFar
import Derived.Outline
namespace Go.Proofs.Ytbklcalpojkjfaa
open Go.RowKit TW

theorem far_no {h p : Int} (c : ¬ ((2 ≤ h ∧ h ≤ 4) ∧ (1 ≤ p ∧ p ≤ 15))) : far h p = -1 := by unfold far; rw [if_neg c]
theorem far_yes {h p : Int} (c : (2 ≤ h ∧ h ≤ 4) ∧ (1 ≤ p ∧ p ≤ 15)) : far h p = farTo h.toNat p.toNat (4 ^ h.toNat - p.toNat) := by unfold far; rw [if_pos c]

theorem specFar_c (h p : Int) (w : World) :
    Calls Try.prog 32 #[.int .i64 h, .int .i64 p] w fun e w' => e = .returned (.int .i64 (far h p)) ∧ w = w' := by
  cases c1 : (decide (2 ≤ h) && decide (h ≤ 4)) with
  | false =>
    have hr : Hid (far h p = -1) := far_no (by simp only [Bool.and_eq_false_iff, decide_eq_false_iff_not] at c1; omega)
    go_enter Try.func32, Try.ntmps32
    go_wp2_with (go_at_call 39; refine (l1In_c _ _ _ _).mono ?_; rintro e w' ⟨rfl, rfl⟩)
    go_ret
    exact ⟨ret_int hr.out.symm, rfl⟩
  | true =>
    cases c2 : (decide (1 ≤ p) && decide (p ≤ 15)) with
    | false =>
      have hr : Hid (far h p = -1) := far_no (by simp only [Bool.and_eq_false_iff, decide_eq_false_iff_not] at c2; omega)
      go_enter Try.func32, Try.ntmps32
      go_wp2_with (go_at_call 39; refine (l1In_c _ _ _ _).mono ?_; rintro e w' ⟨rfl, rfl⟩)
      go_ret
      exact ⟨ret_int hr.out.symm, rfl⟩
    | true =>
      simp only [Bool.and_eq_true, decide_eq_true_eq] at c1 c2
      rw [far_yes ⟨c1, c2⟩]
      obtain ⟨q, rfl⟩ : ∃ q : Nat, p = q := ⟨p.toNat, by omega⟩
      obtain rfl | rfl | rfl : h = 2 ∨ h = 3 ∨ h = 4 := by omega
      · exact specFar_2 q (by omega) (by omega) w
      · exact specFar_3 q (by omega) (by omega) w
      · exact specFar_4 q (by omega) (by omega) w

theorem implFar_c (h p : Int) (w : World) :
    Calls Try.prog 33 #[.int .i64 h, .int .i64 p] w fun e w' => e = .returned (.int .i64 (far h p)) ∧ w = w' := by
  by_cases c : (2 ≤ h ∧ h ≤ 4) ∧ (1 ≤ p ∧ p ≤ 15)
  · rw [far_yes c]
    obtain ⟨c1, c2⟩ := c
    obtain ⟨q, rfl⟩ : ∃ q : Nat, p = q := ⟨p.toNat, by omega⟩
    obtain rfl | rfl | rfl : h = 2 ∨ h = 3 ∨ h = 4 := by omega
    · exact implFar_2 q (by omega) (by omega) w
    · exact implFar_3 q (by omega) (by omega) w
    · exact implFar_4 q (by omega) (by omega) w
  · have hr : Hid (far h p = -1) := far_no c
    by_cases h1 : h < 2
    · clear c
      go_enter Try.func33, Try.ntmps33
      go_wp2
      go_ret
      exact ⟨ret_int hr.out.symm, rfl⟩
    · by_cases h2 : 4 < h
      · clear c
        go_enter Try.func33, Try.ntmps33
        go_wp2
        go_ret
        exact ⟨ret_int hr.out.symm, rfl⟩
      · by_cases h3 : p < 1
        · clear c
          go_enter Try.func33, Try.ntmps33
          go_wp2
          go_ret
          exact ⟨ret_int hr.out.symm, rfl⟩
        · have h4 : 15 < p := by omega
          clear c
          go_enter Try.func33, Try.ntmps33
          go_wp2
          go_ret
          exact ⟨ret_int hr.out.symm, rfl⟩

theorem walk_FnExactFarthestApart (h : Int) (_ : (Lit.int .i64 h).wf = true) (p : Int) (_ : (Lit.int .i64 p).wf = true) (w : World) :
    Calls Try.prog 11 #[.int .i64 h, .int .i64 p] w fun e w' => e = .returned (.bool true) ∧ Below w.heap.size w w' := by
  go_enter Try.func11, Try.ntmps11
  go_wp2_with (first
    | (go_at_call 32; refine (specFar_c _ _ _).mono ?_; rintro e w' ⟨rfl, rfl⟩)
    | (go_at_call 33; refine (implFar_c _ _ _).mono ?_; rintro e w' ⟨rfl, rfl⟩))
  go_ret
  exact ⟨rfl, Below.refl _ _⟩
end Go.Proofs.Ytbklcalpojkjfaa
