/- Contracts: SameQuarters of both packages. -/
import Derived.Test.YtbklcalpojkjfaaHil4
import Derived.Test.YtbklcalpojkjfaaHil5
import Derived.BigQuiet
namespace Go.Proofs.Ytbklcalpojkjfaa
open Go.RowKit TW

/-- Are the cells of both numbers in the same square that begins at multiples of its side? -/
def sq (h a b l : Int) : Bool := (decide (1 ≤ h) && decide (h ≤ 5)) && ((decide (0 ≤ l) && decide (l ≤ h)) && (nuOk h a && (nuOk h b && (decide (hX h a / 2 ^ l.toNat = hX h b / 2 ^ l.toNat) && decide (hY h a / 2 ^ l.toNat = hY h b / 2 ^ l.toNat)))))

theorem sq_h {h a b l : Int} (c : ¬ (1 ≤ h ∧ h ≤ 5)) : sq h a b l = false := by unfold sq; have : (decide (1 ≤ h) && decide (h ≤ 5)) = false := by simp; omega
                                                                                rw [this]; rfl
theorem sq_l {h a b l : Int} (c : ¬ (0 ≤ l ∧ l ≤ h)) : sq h a b l = false := by unfold sq; have : (decide (0 ≤ l) && decide (l ≤ h)) = false := by simp; omega
                                                                                rw [this]; cases (decide (1 ≤ h) && decide (h ≤ 5)) <;> rfl
theorem sq_a {h a b l : Int} (c : nuOk h a = false) : sq h a b l = false := by unfold sq; rw [c]; simp
theorem sq_b {h a b l : Int} (c : nuOk h b = false) : sq h a b l = false := by unfold sq; rw [c]; simp
theorem sq_in {h a b l : Int} (i1 : 1 ≤ h) (i2 : h ≤ 5) (i3 : 0 ≤ l) (i4 : l ≤ h) (ha : nuOk h a = true) (hb : nuOk h b = true) :
    sq h a b l = (decide (hX h a / 2 ^ l.toNat = hX h b / 2 ^ l.toNat) && decide (hY h a / 2 ^ l.toNat = hY h b / 2 ^ l.toNat)) := by
  unfold sq; rw [ha, hb]; simp [i1, i2, i3, i4]
theorem nuOk_big {h n : Int} (c : 5 < h) : nuOk h n = false := by
  unfold nuOk hvOk; have : decide (h ≤ 5) = false := by simp; omega
  rw [this]; simp

set_option maxHeartbeats 4000000 in
theorem specSame_c (h a b l : Int) (w : World) :
    Calls Try.prog 30 #[.int .i64 h, .int .i64 a, .int .i64 b, .int .i64 l] w fun e w' => e = .returned (.bool (sq h a b l)) ∧ ∃ d, w.drewN d = w' := by
  cases c1 : (decide (1 ≤ h) && decide (h ≤ 5)) with
  | false =>
    have hr : Hid (sq h a b l = false) := by unfold sq; rw [c1]; rfl
    go_enter Try.func30, Try.ntmps30
    go_wp2_with (first | (go_at_call 39; refine (l1In_c _ _ _ _).mono ?_; rintro e w' ⟨rfl, rfl⟩) | (go_at_call 25; refine (specCell_c _ _ _).mono ?_; rintro e w' ⟨rfl, rfl⟩))
    go_ret
    exact ⟨ret_bool (by rw [hr.out]), 0, rfl⟩
  | true =>
    cases c2 : (decide (0 ≤ l) && decide (l ≤ h)) with
    | false =>
      have hr : Hid (sq h a b l = false) := by unfold sq; rw [c1, c2]; rfl
      go_enter Try.func30, Try.ntmps30
      go_wp2_with (first | (go_at_call 39; refine (l1In_c _ _ _ _).mono ?_; rintro e w' ⟨rfl, rfl⟩) | (go_at_call 25; refine (specCell_c _ _ _).mono ?_; rintro e w' ⟨rfl, rfl⟩))
      go_ret
      exact ⟨ret_bool (by rw [hr.out]), 0, rfl⟩
    | true =>
      have i : (1 ≤ h ∧ h ≤ 5) ∧ (0 ≤ l ∧ l ≤ h) := by simp only [Bool.and_eq_true, decide_eq_true_eq] at c1 c2; exact ⟨c1, c2⟩
      obtain ⟨⟨i1, i2⟩, i3, i4⟩ := i
      clear c1 c2
      cases ha : nuOk h a with
      | false =>
        have hr : Hid (sq h a b l = false) := sq_a ha
        go_enter Try.func30, Try.ntmps30
        go_wp2_with (first | (go_at_call 39; refine (l1In_c _ _ _ _).mono ?_; rintro e w' ⟨rfl, rfl⟩) | (go_at_call 25; refine (specCell_c _ _ _).mono ?_; rintro e w' ⟨rfl, rfl⟩))
        go_quiet (fail)
        go_wp2
        go_ret
        exact ⟨ret_bool (by rw [hr.out]; try simp [*]), _, rfl⟩
      | true =>
        cases hb : nuOk h b with
        | false =>
          have hr : Hid (sq h a b l = false) := sq_b hb
          go_enter Try.func30, Try.ntmps30
          go_wp2_with (first | (go_at_call 39; refine (l1In_c _ _ _ _).mono ?_; rintro e w' ⟨rfl, rfl⟩) | (go_at_call 25; refine (specCell_c _ _ _).mono ?_; rintro e w' ⟨rfl, rfl⟩))
          go_quiet (fail)
          go_wp2
          go_ret
          exact ⟨ret_bool (by rw [hr.out]; try simp [*]), _, rfl⟩
        | true =>
          have hs := sq_in i1 i2 i3 i4 ha hb
          have hl : l = 0 ∨ l = 1 ∨ l = 2 ∨ l = 3 ∨ l = 4 ∨ l = 5 := by omega
          obtain rfl | rfl | rfl | rfl | rfl | rfl := hl
          · have hr : Hid (sq h a b 0 = (decide (hX h a = hX h b) && decide (hY h a = hY h b))) := by rw [hs]; simp only [Int.toNat_zero, Int.pow_zero, Int.ediv_one]; exact trivial
            clear hs
            cases q1 : decide (hX h a = hX h b) with
            | false =>
              have Q1 := of_decide_eq_false q1
              have B1 : ((hX h a) == (hX h b)) = false := by simpa using Q1
              skip
              go_enter Try.func30, Try.ntmps30
              go_wp2_with (first | (go_at_call 39; refine (l1In_c _ _ _ _).mono ?_; rintro e w' ⟨rfl, rfl⟩) | (go_at_call 25; refine (specCell_c _ _ _).mono ?_; rintro e w' ⟨rfl, rfl⟩))
              go_quiet (fail)
              go_wp2
              go_ret
              exact ⟨ret_bool (by rw [hr.out]; try simp [*]), _, rfl⟩
            | true =>
              have Q1 := of_decide_eq_true q1
              cases q2 : decide (hY h a = hY h b) with
              | false =>
                have Q2 := of_decide_eq_false q2
                have B2 : ((hY h a) == (hY h b)) = false := by simpa using Q2
                skip
                go_enter Try.func30, Try.ntmps30
                go_wp2_with (first | (go_at_call 39; refine (l1In_c _ _ _ _).mono ?_; rintro e w' ⟨rfl, rfl⟩) | (go_at_call 25; refine (specCell_c _ _ _).mono ?_; rintro e w' ⟨rfl, rfl⟩))
                go_quiet (fail)
                go_wp2
                go_ret
                exact ⟨ret_bool (by rw [hr.out]; try simp [*]), _, rfl⟩
              | true =>
                have Q2 := of_decide_eq_true q2
                skip
                go_enter Try.func30, Try.ntmps30
                go_wp2_with (first | (go_at_call 39; refine (l1In_c _ _ _ _).mono ?_; rintro e w' ⟨rfl, rfl⟩) | (go_at_call 25; refine (specCell_c _ _ _).mono ?_; rintro e w' ⟨rfl, rfl⟩))
                go_quiet (fail)
                go_wp2
                go_ret
                exact ⟨ret_bool (by rw [hr.out]; try simp [*]), _, rfl⟩
          · have hr : Hid (sq h a b 1 = (decide (hX h a / 2 = hX h b / 2) && decide (hY h a / 2 = hY h b / 2))) := by rw [hs]; rfl
            clear hs
            cases q1 : decide (hX h a / 2 = hX h b / 2) with
            | false =>
              have Q1 := of_decide_eq_false q1
              have B1 : ((hX h a / 2) == (hX h b / 2)) = false := by simpa using Q1
              skip
              go_enter Try.func30, Try.ntmps30
              go_wp2_with (first | (go_at_call 39; refine (l1In_c _ _ _ _).mono ?_; rintro e w' ⟨rfl, rfl⟩) | (go_at_call 25; refine (specCell_c _ _ _).mono ?_; rintro e w' ⟨rfl, rfl⟩))
              go_quiet (fail)
              go_wp2
              go_ret
              exact ⟨ret_bool (by rw [hr.out]; try simp [*]), _, rfl⟩
            | true =>
              have Q1 := of_decide_eq_true q1
              cases q2 : decide (hY h a / 2 = hY h b / 2) with
              | false =>
                have Q2 := of_decide_eq_false q2
                have B2 : ((hY h a / 2) == (hY h b / 2)) = false := by simpa using Q2
                skip
                go_enter Try.func30, Try.ntmps30
                go_wp2_with (first | (go_at_call 39; refine (l1In_c _ _ _ _).mono ?_; rintro e w' ⟨rfl, rfl⟩) | (go_at_call 25; refine (specCell_c _ _ _).mono ?_; rintro e w' ⟨rfl, rfl⟩))
                go_quiet (fail)
                go_wp2
                go_ret
                exact ⟨ret_bool (by rw [hr.out]; try simp [*]), _, rfl⟩
              | true =>
                have Q2 := of_decide_eq_true q2
                skip
                go_enter Try.func30, Try.ntmps30
                go_wp2_with (first | (go_at_call 39; refine (l1In_c _ _ _ _).mono ?_; rintro e w' ⟨rfl, rfl⟩) | (go_at_call 25; refine (specCell_c _ _ _).mono ?_; rintro e w' ⟨rfl, rfl⟩))
                go_quiet (fail)
                go_wp2
                go_ret
                exact ⟨ret_bool (by rw [hr.out]; try simp [*]), _, rfl⟩
          · have hr : Hid (sq h a b 2 = (decide (hX h a / 4 = hX h b / 4) && decide (hY h a / 4 = hY h b / 4))) := by rw [hs]; rfl
            clear hs
            cases q1 : decide (hX h a / 4 = hX h b / 4) with
            | false =>
              have Q1 := of_decide_eq_false q1
              have B1 : ((hX h a / 4) == (hX h b / 4)) = false := by simpa using Q1
              skip
              go_enter Try.func30, Try.ntmps30
              go_wp2_with (first | (go_at_call 39; refine (l1In_c _ _ _ _).mono ?_; rintro e w' ⟨rfl, rfl⟩) | (go_at_call 25; refine (specCell_c _ _ _).mono ?_; rintro e w' ⟨rfl, rfl⟩))
              go_quiet (fail)
              go_wp2
              go_ret
              exact ⟨ret_bool (by rw [hr.out]; try simp [*]), _, rfl⟩
            | true =>
              have Q1 := of_decide_eq_true q1
              cases q2 : decide (hY h a / 4 = hY h b / 4) with
              | false =>
                have Q2 := of_decide_eq_false q2
                have B2 : ((hY h a / 4) == (hY h b / 4)) = false := by simpa using Q2
                skip
                go_enter Try.func30, Try.ntmps30
                go_wp2_with (first | (go_at_call 39; refine (l1In_c _ _ _ _).mono ?_; rintro e w' ⟨rfl, rfl⟩) | (go_at_call 25; refine (specCell_c _ _ _).mono ?_; rintro e w' ⟨rfl, rfl⟩))
                go_quiet (fail)
                go_wp2
                go_ret
                exact ⟨ret_bool (by rw [hr.out]; try simp [*]), _, rfl⟩
              | true =>
                have Q2 := of_decide_eq_true q2
                skip
                go_enter Try.func30, Try.ntmps30
                go_wp2_with (first | (go_at_call 39; refine (l1In_c _ _ _ _).mono ?_; rintro e w' ⟨rfl, rfl⟩) | (go_at_call 25; refine (specCell_c _ _ _).mono ?_; rintro e w' ⟨rfl, rfl⟩))
                go_quiet (fail)
                go_wp2
                go_ret
                exact ⟨ret_bool (by rw [hr.out]; try simp [*]), _, rfl⟩
          · have hr : Hid (sq h a b 3 = (decide (hX h a / 8 = hX h b / 8) && decide (hY h a / 8 = hY h b / 8))) := by rw [hs]; rfl
            clear hs
            cases q1 : decide (hX h a / 8 = hX h b / 8) with
            | false =>
              have Q1 := of_decide_eq_false q1
              have B1 : ((hX h a / 8) == (hX h b / 8)) = false := by simpa using Q1
              skip
              go_enter Try.func30, Try.ntmps30
              go_wp2_with (first | (go_at_call 39; refine (l1In_c _ _ _ _).mono ?_; rintro e w' ⟨rfl, rfl⟩) | (go_at_call 25; refine (specCell_c _ _ _).mono ?_; rintro e w' ⟨rfl, rfl⟩))
              go_quiet (fail)
              go_wp2
              go_ret
              exact ⟨ret_bool (by rw [hr.out]; try simp [*]), _, rfl⟩
            | true =>
              have Q1 := of_decide_eq_true q1
              cases q2 : decide (hY h a / 8 = hY h b / 8) with
              | false =>
                have Q2 := of_decide_eq_false q2
                have B2 : ((hY h a / 8) == (hY h b / 8)) = false := by simpa using Q2
                skip
                go_enter Try.func30, Try.ntmps30
                go_wp2_with (first | (go_at_call 39; refine (l1In_c _ _ _ _).mono ?_; rintro e w' ⟨rfl, rfl⟩) | (go_at_call 25; refine (specCell_c _ _ _).mono ?_; rintro e w' ⟨rfl, rfl⟩))
                go_quiet (fail)
                go_wp2
                go_ret
                exact ⟨ret_bool (by rw [hr.out]; try simp [*]), _, rfl⟩
              | true =>
                have Q2 := of_decide_eq_true q2
                skip
                go_enter Try.func30, Try.ntmps30
                go_wp2_with (first | (go_at_call 39; refine (l1In_c _ _ _ _).mono ?_; rintro e w' ⟨rfl, rfl⟩) | (go_at_call 25; refine (specCell_c _ _ _).mono ?_; rintro e w' ⟨rfl, rfl⟩))
                go_quiet (fail)
                go_wp2
                go_ret
                exact ⟨ret_bool (by rw [hr.out]; try simp [*]), _, rfl⟩
          · have hr : Hid (sq h a b 4 = (decide (hX h a / 16 = hX h b / 16) && decide (hY h a / 16 = hY h b / 16))) := by rw [hs]; rfl
            clear hs
            cases q1 : decide (hX h a / 16 = hX h b / 16) with
            | false =>
              have Q1 := of_decide_eq_false q1
              have B1 : ((hX h a / 16) == (hX h b / 16)) = false := by simpa using Q1
              skip
              go_enter Try.func30, Try.ntmps30
              go_wp2_with (first | (go_at_call 39; refine (l1In_c _ _ _ _).mono ?_; rintro e w' ⟨rfl, rfl⟩) | (go_at_call 25; refine (specCell_c _ _ _).mono ?_; rintro e w' ⟨rfl, rfl⟩))
              go_quiet (fail)
              go_wp2
              go_ret
              exact ⟨ret_bool (by rw [hr.out]; try simp [*]), _, rfl⟩
            | true =>
              have Q1 := of_decide_eq_true q1
              cases q2 : decide (hY h a / 16 = hY h b / 16) with
              | false =>
                have Q2 := of_decide_eq_false q2
                have B2 : ((hY h a / 16) == (hY h b / 16)) = false := by simpa using Q2
                skip
                go_enter Try.func30, Try.ntmps30
                go_wp2_with (first | (go_at_call 39; refine (l1In_c _ _ _ _).mono ?_; rintro e w' ⟨rfl, rfl⟩) | (go_at_call 25; refine (specCell_c _ _ _).mono ?_; rintro e w' ⟨rfl, rfl⟩))
                go_quiet (fail)
                go_wp2
                go_ret
                exact ⟨ret_bool (by rw [hr.out]; try simp [*]), _, rfl⟩
              | true =>
                have Q2 := of_decide_eq_true q2
                skip
                go_enter Try.func30, Try.ntmps30
                go_wp2_with (first | (go_at_call 39; refine (l1In_c _ _ _ _).mono ?_; rintro e w' ⟨rfl, rfl⟩) | (go_at_call 25; refine (specCell_c _ _ _).mono ?_; rintro e w' ⟨rfl, rfl⟩))
                go_quiet (fail)
                go_wp2
                go_ret
                exact ⟨ret_bool (by rw [hr.out]; try simp [*]), _, rfl⟩
          · have hr : Hid (sq h a b 5 = (decide (hX h a / 32 = hX h b / 32) && decide (hY h a / 32 = hY h b / 32))) := by rw [hs]; rfl
            clear hs
            cases q1 : decide (hX h a / 32 = hX h b / 32) with
            | false =>
              have Q1 := of_decide_eq_false q1
              have B1 : ((hX h a / 32) == (hX h b / 32)) = false := by simpa using Q1
              skip
              go_enter Try.func30, Try.ntmps30
              go_wp2_with (first | (go_at_call 39; refine (l1In_c _ _ _ _).mono ?_; rintro e w' ⟨rfl, rfl⟩) | (go_at_call 25; refine (specCell_c _ _ _).mono ?_; rintro e w' ⟨rfl, rfl⟩))
              go_quiet (fail)
              go_wp2
              go_ret
              exact ⟨ret_bool (by rw [hr.out]; try simp [*]), _, rfl⟩
            | true =>
              have Q1 := of_decide_eq_true q1
              cases q2 : decide (hY h a / 32 = hY h b / 32) with
              | false =>
                have Q2 := of_decide_eq_false q2
                have B2 : ((hY h a / 32) == (hY h b / 32)) = false := by simpa using Q2
                skip
                go_enter Try.func30, Try.ntmps30
                go_wp2_with (first | (go_at_call 39; refine (l1In_c _ _ _ _).mono ?_; rintro e w' ⟨rfl, rfl⟩) | (go_at_call 25; refine (specCell_c _ _ _).mono ?_; rintro e w' ⟨rfl, rfl⟩))
                go_quiet (fail)
                go_wp2
                go_ret
                exact ⟨ret_bool (by rw [hr.out]; try simp [*]), _, rfl⟩
              | true =>
                have Q2 := of_decide_eq_true q2
                skip
                go_enter Try.func30, Try.ntmps30
                go_wp2_with (first | (go_at_call 39; refine (l1In_c _ _ _ _).mono ?_; rintro e w' ⟨rfl, rfl⟩) | (go_at_call 25; refine (specCell_c _ _ _).mono ?_; rintro e w' ⟨rfl, rfl⟩))
                go_quiet (fail)
                go_wp2
                go_ret
                exact ⟨ret_bool (by rw [hr.out]; try simp [*]), _, rfl⟩

set_option maxHeartbeats 4000000 in
theorem implSame_c (h a b l : Int) (w : World) :
    Calls Try.prog 31 #[.int .i64 h, .int .i64 a, .int .i64 b, .int .i64 l] w fun e w' => e = .returned (.bool (sq h a b l)) ∧ ∃ d, w.drewN d = w' := by
  by_cases i1 : 1 ≤ h
  · by_cases i3 : 0 ≤ l
    · by_cases i4 : l ≤ h
      · by_cases i2 : h ≤ 5
        · cases ha : nuOk h a with
          | false =>
            have hr : Hid (sq h a b l = false) := sq_a ha
            go_enter Try.func31, Try.ntmps31
            go_wp2_with (go_at_call 26; refine (implCell_c _ _ _).mono ?_; rintro e w' ⟨rfl, rfl⟩)
            go_quiet (fail)
            go_wp2
            go_ret
            exact ⟨ret_bool (by rw [hr.out]; try simp [*]), _, rfl⟩
          | true =>
            cases hb : nuOk h b with
            | false =>
              have hr : Hid (sq h a b l = false) := sq_b hb
              go_enter Try.func31, Try.ntmps31
              go_wp2_with (go_at_call 26; refine (implCell_c _ _ _).mono ?_; rintro e w' ⟨rfl, rfl⟩)
              go_quiet (fail)
              go_wp2
              go_ret
              exact ⟨ret_bool (by rw [hr.out]; try simp [*]), _, rfl⟩
            | true =>
              have hs := sq_in i1 i2 i3 i4 ha hb
              have hl : l = 0 ∨ l = 1 ∨ l = 2 ∨ l = 3 ∨ l = 4 ∨ l = 5 := by omega
              obtain rfl | rfl | rfl | rfl | rfl | rfl := hl
              · have hr : Hid (sq h a b 0 = (decide (hX h a = hX h b) && decide (hY h a = hY h b))) := by rw [hs]; simp only [Int.toNat_zero, Int.pow_zero, Int.ediv_one]; exact trivial
                clear hs
                cases q1 : decide (hX h a = hX h b) with
                | false =>
                  have Q1 := of_decide_eq_false q1
                  have B1 : ((hX h a) == (hX h b)) = false := by simpa using Q1
                  skip
                  go_enter Try.func31, Try.ntmps31
                  go_wp2_with (go_at_call 26; refine (implCell_c _ _ _).mono ?_; rintro e w' ⟨rfl, rfl⟩)
                  go_quiet (fail)
                  go_wp2
                  go_ret
                  exact ⟨ret_bool (by rw [hr.out]; try simp [*]), _, rfl⟩
                | true =>
                  have Q1 := of_decide_eq_true q1
                  cases q2 : decide (hY h a = hY h b) with
                  | false =>
                    have Q2 := of_decide_eq_false q2
                    have B2 : ((hY h a) == (hY h b)) = false := by simpa using Q2
                    skip
                    go_enter Try.func31, Try.ntmps31
                    go_wp2_with (go_at_call 26; refine (implCell_c _ _ _).mono ?_; rintro e w' ⟨rfl, rfl⟩)
                    go_quiet (fail)
                    go_wp2
                    go_ret
                    exact ⟨ret_bool (by rw [hr.out]; try simp [*]), _, rfl⟩
                  | true =>
                    have Q2 := of_decide_eq_true q2
                    skip
                    go_enter Try.func31, Try.ntmps31
                    go_wp2_with (go_at_call 26; refine (implCell_c _ _ _).mono ?_; rintro e w' ⟨rfl, rfl⟩)
                    go_quiet (fail)
                    go_wp2
                    go_ret
                    exact ⟨ret_bool (by rw [hr.out]; try simp [*]), _, rfl⟩
              · have hr : Hid (sq h a b 1 = (decide (hX h a / 2 = hX h b / 2) && decide (hY h a / 2 = hY h b / 2))) := by rw [hs]; rfl
                clear hs
                cases q1 : decide (hX h a / 2 = hX h b / 2) with
                | false =>
                  have Q1 := of_decide_eq_false q1
                  have B1 : ((hX h a / 2) == (hX h b / 2)) = false := by simpa using Q1
                  skip
                  go_enter Try.func31, Try.ntmps31
                  go_wp2_with (go_at_call 26; refine (implCell_c _ _ _).mono ?_; rintro e w' ⟨rfl, rfl⟩)
                  go_quiet (fail)
                  go_wp2
                  go_ret
                  exact ⟨ret_bool (by rw [hr.out]; try simp [*]), _, rfl⟩
                | true =>
                  have Q1 := of_decide_eq_true q1
                  cases q2 : decide (hY h a / 2 = hY h b / 2) with
                  | false =>
                    have Q2 := of_decide_eq_false q2
                    have B2 : ((hY h a / 2) == (hY h b / 2)) = false := by simpa using Q2
                    skip
                    go_enter Try.func31, Try.ntmps31
                    go_wp2_with (go_at_call 26; refine (implCell_c _ _ _).mono ?_; rintro e w' ⟨rfl, rfl⟩)
                    go_quiet (fail)
                    go_wp2
                    go_ret
                    exact ⟨ret_bool (by rw [hr.out]; try simp [*]), _, rfl⟩
                  | true =>
                    have Q2 := of_decide_eq_true q2
                    skip
                    go_enter Try.func31, Try.ntmps31
                    go_wp2_with (go_at_call 26; refine (implCell_c _ _ _).mono ?_; rintro e w' ⟨rfl, rfl⟩)
                    go_quiet (fail)
                    go_wp2
                    go_ret
                    exact ⟨ret_bool (by rw [hr.out]; try simp [*]), _, rfl⟩
              · have hr : Hid (sq h a b 2 = (decide (hX h a / 4 = hX h b / 4) && decide (hY h a / 4 = hY h b / 4))) := by rw [hs]; rfl
                clear hs
                cases q1 : decide (hX h a / 4 = hX h b / 4) with
                | false =>
                  have Q1 := of_decide_eq_false q1
                  have B1 : ((hX h a / 4) == (hX h b / 4)) = false := by simpa using Q1
                  skip
                  go_enter Try.func31, Try.ntmps31
                  go_wp2_with (go_at_call 26; refine (implCell_c _ _ _).mono ?_; rintro e w' ⟨rfl, rfl⟩)
                  go_quiet (fail)
                  go_wp2
                  go_ret
                  exact ⟨ret_bool (by rw [hr.out]; try simp [*]), _, rfl⟩
                | true =>
                  have Q1 := of_decide_eq_true q1
                  cases q2 : decide (hY h a / 4 = hY h b / 4) with
                  | false =>
                    have Q2 := of_decide_eq_false q2
                    have B2 : ((hY h a / 4) == (hY h b / 4)) = false := by simpa using Q2
                    skip
                    go_enter Try.func31, Try.ntmps31
                    go_wp2_with (go_at_call 26; refine (implCell_c _ _ _).mono ?_; rintro e w' ⟨rfl, rfl⟩)
                    go_quiet (fail)
                    go_wp2
                    go_ret
                    exact ⟨ret_bool (by rw [hr.out]; try simp [*]), _, rfl⟩
                  | true =>
                    have Q2 := of_decide_eq_true q2
                    skip
                    go_enter Try.func31, Try.ntmps31
                    go_wp2_with (go_at_call 26; refine (implCell_c _ _ _).mono ?_; rintro e w' ⟨rfl, rfl⟩)
                    go_quiet (fail)
                    go_wp2
                    go_ret
                    exact ⟨ret_bool (by rw [hr.out]; try simp [*]), _, rfl⟩
              · have hr : Hid (sq h a b 3 = (decide (hX h a / 8 = hX h b / 8) && decide (hY h a / 8 = hY h b / 8))) := by rw [hs]; rfl
                clear hs
                cases q1 : decide (hX h a / 8 = hX h b / 8) with
                | false =>
                  have Q1 := of_decide_eq_false q1
                  have B1 : ((hX h a / 8) == (hX h b / 8)) = false := by simpa using Q1
                  skip
                  go_enter Try.func31, Try.ntmps31
                  go_wp2_with (go_at_call 26; refine (implCell_c _ _ _).mono ?_; rintro e w' ⟨rfl, rfl⟩)
                  go_quiet (fail)
                  go_wp2
                  go_ret
                  exact ⟨ret_bool (by rw [hr.out]; try simp [*]), _, rfl⟩
                | true =>
                  have Q1 := of_decide_eq_true q1
                  cases q2 : decide (hY h a / 8 = hY h b / 8) with
                  | false =>
                    have Q2 := of_decide_eq_false q2
                    have B2 : ((hY h a / 8) == (hY h b / 8)) = false := by simpa using Q2
                    skip
                    go_enter Try.func31, Try.ntmps31
                    go_wp2_with (go_at_call 26; refine (implCell_c _ _ _).mono ?_; rintro e w' ⟨rfl, rfl⟩)
                    go_quiet (fail)
                    go_wp2
                    go_ret
                    exact ⟨ret_bool (by rw [hr.out]; try simp [*]), _, rfl⟩
                  | true =>
                    have Q2 := of_decide_eq_true q2
                    skip
                    go_enter Try.func31, Try.ntmps31
                    go_wp2_with (go_at_call 26; refine (implCell_c _ _ _).mono ?_; rintro e w' ⟨rfl, rfl⟩)
                    go_quiet (fail)
                    go_wp2
                    go_ret
                    exact ⟨ret_bool (by rw [hr.out]; try simp [*]), _, rfl⟩
              · have hr : Hid (sq h a b 4 = (decide (hX h a / 16 = hX h b / 16) && decide (hY h a / 16 = hY h b / 16))) := by rw [hs]; rfl
                clear hs
                cases q1 : decide (hX h a / 16 = hX h b / 16) with
                | false =>
                  have Q1 := of_decide_eq_false q1
                  have B1 : ((hX h a / 16) == (hX h b / 16)) = false := by simpa using Q1
                  skip
                  go_enter Try.func31, Try.ntmps31
                  go_wp2_with (go_at_call 26; refine (implCell_c _ _ _).mono ?_; rintro e w' ⟨rfl, rfl⟩)
                  go_quiet (fail)
                  go_wp2
                  go_ret
                  exact ⟨ret_bool (by rw [hr.out]; try simp [*]), _, rfl⟩
                | true =>
                  have Q1 := of_decide_eq_true q1
                  cases q2 : decide (hY h a / 16 = hY h b / 16) with
                  | false =>
                    have Q2 := of_decide_eq_false q2
                    have B2 : ((hY h a / 16) == (hY h b / 16)) = false := by simpa using Q2
                    skip
                    go_enter Try.func31, Try.ntmps31
                    go_wp2_with (go_at_call 26; refine (implCell_c _ _ _).mono ?_; rintro e w' ⟨rfl, rfl⟩)
                    go_quiet (fail)
                    go_wp2
                    go_ret
                    exact ⟨ret_bool (by rw [hr.out]; try simp [*]), _, rfl⟩
                  | true =>
                    have Q2 := of_decide_eq_true q2
                    skip
                    go_enter Try.func31, Try.ntmps31
                    go_wp2_with (go_at_call 26; refine (implCell_c _ _ _).mono ?_; rintro e w' ⟨rfl, rfl⟩)
                    go_quiet (fail)
                    go_wp2
                    go_ret
                    exact ⟨ret_bool (by rw [hr.out]; try simp [*]), _, rfl⟩
              · have hr : Hid (sq h a b 5 = (decide (hX h a / 32 = hX h b / 32) && decide (hY h a / 32 = hY h b / 32))) := by rw [hs]; rfl
                clear hs
                cases q1 : decide (hX h a / 32 = hX h b / 32) with
                | false =>
                  have Q1 := of_decide_eq_false q1
                  have B1 : ((hX h a / 32) == (hX h b / 32)) = false := by simpa using Q1
                  skip
                  go_enter Try.func31, Try.ntmps31
                  go_wp2_with (go_at_call 26; refine (implCell_c _ _ _).mono ?_; rintro e w' ⟨rfl, rfl⟩)
                  go_quiet (fail)
                  go_wp2
                  go_ret
                  exact ⟨ret_bool (by rw [hr.out]; try simp [*]), _, rfl⟩
                | true =>
                  have Q1 := of_decide_eq_true q1
                  cases q2 : decide (hY h a / 32 = hY h b / 32) with
                  | false =>
                    have Q2 := of_decide_eq_false q2
                    have B2 : ((hY h a / 32) == (hY h b / 32)) = false := by simpa using Q2
                    skip
                    go_enter Try.func31, Try.ntmps31
                    go_wp2_with (go_at_call 26; refine (implCell_c _ _ _).mono ?_; rintro e w' ⟨rfl, rfl⟩)
                    go_quiet (fail)
                    go_wp2
                    go_ret
                    exact ⟨ret_bool (by rw [hr.out]; try simp [*]), _, rfl⟩
                  | true =>
                    have Q2 := of_decide_eq_true q2
                    skip
                    go_enter Try.func31, Try.ntmps31
                    go_wp2_with (go_at_call 26; refine (implCell_c _ _ _).mono ?_; rintro e w' ⟨rfl, rfl⟩)
                    go_quiet (fail)
                    go_wp2
                    go_ret
                    exact ⟨ret_bool (by rw [hr.out]; try simp [*]), _, rfl⟩
        · have ha : nuOk h a = false := nuOk_big (by omega)
          have hb : nuOk h b = false := nuOk_big (by omega)
          have hr : Hid (sq h a b l = false) := sq_a ha
          go_enter Try.func31, Try.ntmps31
          go_wp2_with (go_at_call 26; refine (implCell_c _ _ _).mono ?_; rintro e w' ⟨rfl, rfl⟩)
          go_quiet (fail)
          go_wp2
          go_ret
          exact ⟨ret_bool (by rw [hr.out]; try simp [*]), _, rfl⟩
      · have hr : Hid (sq h a b l = false) := sq_l (by omega)
        skip
        go_enter Try.func31, Try.ntmps31
        go_wp2_with (go_at_call 26; refine (implCell_c _ _ _).mono ?_; rintro e w' ⟨rfl, rfl⟩)
        go_ret
        exact ⟨ret_bool (by rw [hr.out]), 0, rfl⟩
    · have hr : Hid (sq h a b l = false) := sq_l (by omega)
      skip
      go_enter Try.func31, Try.ntmps31
      go_wp2_with (go_at_call 26; refine (implCell_c _ _ _).mono ?_; rintro e w' ⟨rfl, rfl⟩)
      go_ret
      exact ⟨ret_bool (by rw [hr.out]), 0, rfl⟩
  · have hr : Hid (sq h a b l = false) := sq_h (by omega)
    skip
    go_enter Try.func31, Try.ntmps31
    go_wp2_with (go_at_call 26; refine (implCell_c _ _ _).mono ?_; rintro e w' ⟨rfl, rfl⟩)
    go_ret
    exact ⟨ret_bool (by rw [hr.out]), 0, rfl⟩
end Go.Proofs.Ytbklcalpojkjfaa
