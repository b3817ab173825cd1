/- Contracts: WovenOf, UnwovenOf, l9Woven of both packages. -/
import Derived.Test.YtbklcalpojkjfaaBits1
import Derived.Deep.QuietTactic
import Derived.BigQuiet
namespace Go.Proofs.Ytbklcalpojkjfaa
open Go.RowKit TW

/-- spread(x) | spread(y)<<1. -/
theorem join_eq : ∀ x : Nat, x < 32 → ∀ y : Nat, y < 32 → bits .or .i64 (wv x 0 : Nat) ((wv y 0 : Nat) * 2) = (wv x y : Nat) := by decide +kernel
theorem wv0_lt : ∀ x : Nat, x < 32 → wv x 0 < 1024 := by decide +kernel

theorem implWoven_c (h x y : Int) (w : World) :
    Calls Try.prog 20 #[.int .i64 h, .int .i64 x, .int .i64 y] w fun e w' => e = .returned (.int .i64 (woI h x y)) ∧ w = w' := by
  cases hv : ceOk h x y with
  | false =>
    have hr : Hid (woI h x y = -1) := by unfold woI; rw [hv]; rfl
    go_enter Try.func20, Try.ntmps20
    go_wp2_with (go_at_call 43; refine (cellOk_c _ _ _ _).mono ?_; rintro e w' ⟨rfl, rfl⟩)
    go_ret
    exact ⟨ret_int hr.out.symm, rfl⟩
  | true =>
    obtain ⟨k, a, b, rfl, rfl, rfl, hk, ha, hb⟩ := ceOk_nat hv
    have h32 := (pow_le32 k hk).2.1
    have ha' : a < 32 := by omega
    have hb' : b < 32 := by omega
    have hr := hid ((join_eq a ha' b hb').trans (woI_of hk ha hb).symm)
    have h1 := wv0_lt b hb'
    go_enter Try.func20, Try.ntmps20
    go_wp2_with (first
      | (go_at_call 43; refine (cellOk_c _ _ _ _).mono ?_; rintro e w' ⟨rfl, rfl⟩)
      | (go_at_call 44; refine (spread_c _ (by omega) _).mono ?_; rintro e w' ⟨rfl, rfl⟩))
    go_ret
    exact ⟨ret_int hr.out, rfl⟩

theorem gathered_half (n : Nat) (h1 : n < 1024) (w : World) :
    Calls Try.prog 41 #[.int .i64 ((n : Int) / 2)] w fun e w' => e = .returned (.int .i64 (un (n / 2) : Nat)) ∧ w = w' := by
  have e : (n : Int) / 2 = ((n / 2 : Nat) : Int) := rfl
  rw [e]; exact gathered_c _ (by omega) w

theorem implUnwoven_c (h n : Int) (w : World) :
    Calls Try.prog 18 #[.int .i64 h, .int .i64 n] w fun e w' => e = .returned (.tuple #[.int .i64 (unX h n), .int .i64 (unY h n), .bool (nuOk h n)]) ∧ w = w' := by
  cases hv : hvOk h with
  | false =>
    have hf : nuOk h n = false := by unfold nuOk; rw [hv]; rfl
    have hr : Hid (unX h n = 0 ∧ unY h n = 0) := by unfold unX unY; rw [hf]; exact ⟨rfl, rfl⟩
    have HF := hid hf; clear hf
    go_enter Try.func18, Try.ntmps18
    go_wp2_with (go_at_call 40; refine (halvesOk_c _ _).mono ?_; rintro e w' ⟨rfl, rfl⟩)
    go_ret3
    exact ⟨ret_iib hr.out.1.symm hr.out.2.symm HF.out.symm, rfl⟩
  | true =>
    obtain ⟨k, rfl, hk⟩ := hvOk_nat hv
    have hw := wrap_pow (2 * k) (by omega)
    have e2 : (2 * (k : Int)).toNat = 2 * k := by omega
    have hs : nuOk k n = (decide (0 ≤ n) && decide (n < 2 ^ (2 * k))) := by unfold nuOk; rw [hv]; rfl
    by_cases h1 : 0 ≤ n
    · by_cases h2 : n < 2 ^ (2 * k)
      · have ht : nuOk k n = true := by rw [hs]; simp [h1, h2]
        obtain ⟨k', a, e1, rfl, _, ha⟩ := nuOk_nat ht
        obtain rfl : k = k' := by omega
        clear e1
        have e3 : a < 4 ^ k := by
          have := (pow_le32 k hk).2.2.2.2.2
          rw [← cast_pow] at h2; omega
        have h4 : a < 1024 := by
          have := (pow_le32 k hk).2.2.2.1
          omega
        have hr : Hid (unX k a = (un a : Nat) ∧ unY k a = (un (a / 2) : Nat)) := ⟨unX_of hk e3, unY_of hk e3⟩
        have HT := hid ht
        clear ht hs ha e3
        go_enter Try.func18, Try.ntmps18
        go_wp2_with (first
          | (go_at_call 40; refine (halvesOk_c _ _).mono ?_; rintro e w' ⟨rfl, rfl⟩)
          | (go_at_call 41; (with_reducible refine (gathered_c a (by omega) _).mono ?_); rintro e w' ⟨rfl, rfl⟩)
          | (go_at_call 41; (with_reducible refine (gathered_half a (by omega) _).mono ?_); rintro e w' ⟨rfl, rfl⟩))
        go_ret3
        exact ⟨ret_iib hr.out.1.symm hr.out.2.symm HT.out.symm, rfl⟩
      · have hf : nuOk k n = false := by rw [hs]; simp [h2]
        have hr : Hid (unX k n = 0 ∧ unY k n = 0) := by unfold unX unY; rw [hf]; exact ⟨rfl, rfl⟩
        have HF := hid hf; clear hf hs
        go_enter Try.func18, Try.ntmps18
        go_wp2_with (go_at_call 40; refine (halvesOk_c _ _).mono ?_; rintro e w' ⟨rfl, rfl⟩)
        go_ret3
        exact ⟨ret_iib hr.out.1.symm hr.out.2.symm HF.out.symm, rfl⟩
    · have hf : nuOk k n = false := by rw [hs]; simp [h1]
      have hr : Hid (unX k n = 0 ∧ unY k n = 0) := by unfold unX unY; rw [hf]; exact ⟨rfl, rfl⟩
      have HF := hid hf; clear hf hs
      go_enter Try.func18, Try.ntmps18
      go_wp2_with (go_at_call 40; refine (halvesOk_c _ _).mono ?_; rintro e w' ⟨rfl, rfl⟩)
      go_ret3
      exact ⟨ret_iib hr.out.1.symm hr.out.2.symm HF.out.symm, rfl⟩

theorem unTo_lt : ∀ a : Nat, a < 1024 → ∀ j : Nat, j < 6 → unTo a j < 32 ∧ unTo (a / 2) j < 32 := by decide +kernel
theorem unTo_step (a j X Y : Nat) (h : X = unTo a j ∧ Y = unTo (a / 2) j) : X + a / 4 ^ j % 2 * 2 ^ j = unTo a (j + 1) ∧ Y + a / 2 / 4 ^ j % 2 * 2 ^ j = unTo (a / 2) (j + 1) := by
  obtain ⟨rfl, rfl⟩ := h; exact ⟨rfl, rfl⟩

set_option maxHeartbeats 1000000 in
theorem specUnwoven_c (h n : Int) (w : World) :
    Calls Try.prog 17 #[.int .i64 h, .int .i64 n] w fun e w' => e = .returned (.tuple #[.int .i64 (unX h n), .int .i64 (unY h n), .bool (nuOk h n)]) ∧ w = w' := by
  cases hv : hvOk h with
  | false =>
    have hf : nuOk h n = false := by unfold nuOk; rw [hv]; rfl
    have hr : Hid (unX h n = 0 ∧ unY h n = 0) := by unfold unX unY; rw [hf]; exact ⟨rfl, rfl⟩
    have HF := hid hf; clear hf
    have hv2 : (decide (0 ≤ h) && decide (h ≤ 5)) = false := hv
    go_enter Try.func17, Try.ntmps17
    go_wp2_with (go_at_call 39; refine (l1In_c _ _ _ _).mono ?_; rintro e w' ⟨rfl, rfl⟩)
    go_ret3
    exact ⟨ret_iib hr.out.1.symm hr.out.2.symm HF.out.symm, rfl⟩
  | true =>
    obtain ⟨k, rfl, hk⟩ := hvOk_nat hv
    have hv2 : (decide (0 ≤ (k : Int)) && decide ((k : Int) ≤ 5)) = true := hv
    have hw := wrap_pow (2 * k) (by omega)
    have hw1 := wrap_pow1 (2 * k) (by omega)
    have e2 : (2 * (k : Int)).toNat = 2 * k := by omega
    have hs : nuOk k n = (decide (0 ≤ n) && decide (n < 2 ^ (2 * k))) := by unfold nuOk; rw [hv]; rfl
    have hs2 : nuOk k n = (decide (0 ≤ n) && decide (n ≤ 2 ^ (2 * k) - 1)) := by rw [hs, le_pred]
    cases ht : nuOk k n with
    | false =>
      have hr : Hid (unX k n = 0 ∧ unY k n = 0) := by unfold unX unY; rw [ht]; exact ⟨rfl, rfl⟩
      have hs3 := hs2.symm.trans ht
      clear ht hs hs2
      go_enter Try.func17, Try.ntmps17
      go_wp2_with (go_at_call 39; refine (l1In_c _ _ _ _).mono ?_; rintro e w' ⟨rfl, rfl⟩)
      go_ret3
      exact ⟨ret_iib hr.out.1.symm hr.out.2.symm rfl, rfl⟩
    | true =>
      obtain ⟨k', a, e1, rfl, _, ha⟩ := nuOk_nat ht
      obtain rfl : k = k' := by omega
      have hs3 := hs2.symm.trans ht
      have hr : Hid (unX k a = (unTo a k : Nat) ∧ unY k a = (unTo (a / 2) k : Nat)) := by
        have := unTo_eq k hk a ha
        rw [this.1, this.2.1]
        exact ⟨unX_of hk ha, unY_of hk ha⟩
      have hs4 : (a : Int) ≤ 2 ^ (2 * k) - 1 := by simp only [Bool.and_eq_true, decide_eq_true_eq] at hs3; exact hs3.2
      have hs5 : (k : Int) ≤ 5 := by omega
      have HT := hid ht
      have HA := hid ha
      clear ht hs hs2 ha e1 hs3 hv2
      go_enter Try.func17, Try.ntmps17
      go_wp2_with (go_at_call 39; refine (l1In_c _ _ _ _).mono ?_; rintro e w' ⟨rfl, rfl⟩)
      have h4 : a < 1024 := by
        have h5 := HA.out
        have h6 := (pow_le32 k hk).2.2.2
        rw [← h6.2.2, ] at h5
        have h7 := h6.1
        rw [← cast_pow] at h7; omega
      have HU := hid (unTo_lt a h4)
      clear hw hw1 e2 hs4
      go_loop [7, 8, 9] (fun x y i => ∃ j X Y : Nat, j ≤ k ∧ x = .int .i64 X ∧ y = .int .i64 Y ∧ i = .int .i64 j ∧ X < 32 ∧ Y < 32 ∧ Hid (X = unTo a j ∧ Y = unTo (a / 2) j)) (fun _ _ i => 10 - (intOf i).toNat)
      case atStart => exact ⟨0, 0, 0, by omega, rfl, rfl, rfl, by omega, by omega, hid ⟨rfl, rfl⟩⟩
      case round =>
        obtain ⟨j, X, Y, hj, rfl, rfl, rfl, hX, hY, HXY⟩ := hrel
        by_cases hlt : j < k
        · have hst := hid (unTo_step a j X Y HXY.out)
          have hlt2 := hid (HU.out (j + 1) (by omega))
          obtain rfl | rfl | rfl | rfl | rfl : j = 0 ∨ j = 1 ∨ j = 2 ∨ j = 3 ∨ j = 4 := by omega
          all_goals
            go_wp2
            have q1 := hst.out
            have q2 := hlt2.out
            simp only [Nat.reducePow] at q1
            go_round
            case rel => exact ⟨_, _, _, by omega, by go_num, by go_num, by go_num, by rw [q1.1]; exact q2.1, by rw [q1.2]; exact q2.2, hid q1⟩
            case measure => simp [intOf]
        · obtain rfl : j = k := by omega
          go_wp2
          go_ret3
          exact ⟨ret_iib (by rw [HXY.out.1]; exact hr.out.1.symm) (by rw [HXY.out.2]; exact hr.out.2.symm) rfl, rfl⟩
end Go.Proofs.Ytbklcalpojkjfaa
