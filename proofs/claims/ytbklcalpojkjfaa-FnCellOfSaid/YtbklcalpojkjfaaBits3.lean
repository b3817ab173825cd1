/- Contracts: l9Woven, spec.WovenOf, EastOf of both packages. -/
import Derived.Test.YtbklcalpojkjfaaBits2
import Derived.WalkSmall
namespace Go.Proofs.Ytbklcalpojkjfaa
open Go.RowKit TW

theorem wvTo_lt : ∀ x : Nat, x < 32 → ∀ y : Nat, y < 32 → ∀ j : Nat, j < 6 → wvTo x y j < 1024 := by decide +kernel

theorem wv_step {x y j N : Nat} (h : N = wvTo x y j) : wvTo x y (j + 1) = N + x / 2 ^ j % 2 * 4 ^ j + y / 2 ^ j % 2 * (2 * 4 ^ j) := by rw [h]; rfl

set_option maxHeartbeats 1000000 in
theorem l9Woven_c (x y : Nat) (hx : x < 32) (hy : y < 32) (w : World) :
    Calls Try.prog 42 #[.int .i64 x, .int .i64 y] w fun e w' => e = .returned (.int .i64 (wv x y : Nat)) ∧ ∃ d, w.drewN d = w' := by
  have HU := hid (wvTo_lt x hx y hy)
  go_enter Try.func42, Try.ntmps42
  go_wp2
  go_loopw [5, 6] (fun n i wr => ∃ j N d : Nat, j ≤ 5 ∧ n = .int .i64 N ∧ i = .int .i64 j ∧ N < 1024 ∧ Hid (N = wvTo x y j) ∧ wr = w.drewN d) (fun _ i _ => 10 - (intOf i).toNat)
  case atStart => exact ⟨0, 0, 0, by omega, rfl, rfl, by omega, hid rfl, rfl⟩
  case round =>
    obtain ⟨j, N, d, hj, rfl, rfl, hN, HN, rfl⟩ := hrel
    by_cases hlt : j < 5
    · have hlt2 := hid (HU.out (j + 1) (by omega))
      obtain rfl | rfl | rfl | rfl | rfl : j = 0 ∨ j = 1 ∨ j = 2 ∨ j = 3 ∨ j = 4 := by omega
      all_goals
        go_wp2
        go_quiet (fail)
        go_wp2
        go_roundw
        case rel =>
          have q := wv_step HN.out
          have q2 := hlt2.out
          rw [q] at q2
          simp only [Nat.reducePow, Nat.reduceAdd, Nat.reduceMul] at q q2
          exact ⟨_, _, _, by omega, by go_num, by go_num, q2, hid q.symm, rfl⟩
        case measure => simp [intOf]
    · obtain rfl : j = 5 := by omega
      go_wp2
      go_ret
      exact ⟨ret_int (by rw [HN.out]; rfl), d, rfl⟩

theorem specWoven_c (h x y : Int) (w : World) :
    Calls Try.prog 19 #[.int .i64 h, .int .i64 x, .int .i64 y] w fun e w' => e = .returned (.int .i64 (woI h x y)) ∧ ∃ d, w.drewN d = w' := by
  cases hv : hvOk h with
  | false =>
    have hr : Hid (woI h x y = -1) := by unfold woI ceOk; rw [hv]; rfl
    have hv2 : (decide (0 ≤ h) && decide (h ≤ 5)) = false := hv
    go_enter Try.func19, Try.ntmps19
    go_wp2_with (go_at_call 39; refine (l1In_c _ _ _ _).mono ?_; rintro e w' ⟨rfl, rfl⟩)
    go_ret
    exact ⟨ret_int hr.out.symm, 0, rfl⟩
  | true =>
    obtain ⟨k, rfl, hk⟩ := hvOk_nat hv
    have hv2 : (decide (0 ≤ (k : Int)) && decide ((k : Int) ≤ 5)) = true := hv
    have hw := wrap_pow k (by omega)
    have hw1 := wrap_pow1 k (by omega)
    have hs : ceOk k x y = ((decide (0 ≤ x) && decide (x ≤ 2 ^ k - 1)) && (decide (0 ≤ y) && decide (y ≤ 2 ^ k - 1))) := by rw [le_pred, le_pred]; unfold ceOk; rw [hv]; rfl
    cases hx : (decide (0 ≤ x) && decide (x ≤ 2 ^ k - 1)) with
    | false =>
      have hr : Hid (woI k x y = -1) := by unfold woI; rw [hs, hx]; rfl
      clear hs
      go_enter Try.func19, Try.ntmps19
      go_wp2_with (go_at_call 39; refine (l1In_c _ _ _ _).mono ?_; rintro e w' ⟨rfl, rfl⟩)
      go_ret
      exact ⟨ret_int hr.out.symm, 0, rfl⟩
    | true =>
      cases hy : (decide (0 ≤ y) && decide (y ≤ 2 ^ k - 1)) with
      | false =>
        have hr : Hid (woI k x y = -1) := by unfold woI; rw [hs, hx, hy]; rfl
        clear hs
        go_enter Try.func19, Try.ntmps19
        go_wp2_with (go_at_call 39; refine (l1In_c _ _ _ _).mono ?_; rintro e w' ⟨rfl, rfl⟩)
        go_ret
        exact ⟨ret_int hr.out.symm, 0, rfl⟩
      | true =>
        have hc : ceOk k x y = true := by rw [hs, hx, hy]; rfl
        clear hs
        obtain ⟨k', a, b, e1, rfl, rfl, _, ha, hb⟩ := ceOk_nat hc
        obtain rfl : k = k' := by omega
        have h32 := (pow_le32 k hk).2.1
        have ha' : a < 32 := by omega
        have hb' : b < 32 := by omega
        have hr := hid (woI_of hk ha hb)
        have hx1 : (a : Int) ≤ 2 ^ k - 1 := by simp only [Bool.and_eq_true, decide_eq_true_eq] at hx; exact hx.2
        have hy1 : (b : Int) ≤ 2 ^ k - 1 := by simp only [Bool.and_eq_true, decide_eq_true_eq] at hy; exact hy.2
        have hk5 : (k : Int) ≤ 5 := by omega
        clear e1 hc ha hb hx hy hv2
        go_enter Try.func19, Try.ntmps19
        go_wp2_with (first
          | (go_at_call 39; refine (l1In_c _ _ _ _).mono ?_; rintro e w' ⟨rfl, rfl⟩)
          | (go_at_call 42; refine (l9Woven_c _ _ ha' hb' _).mono ?_; rintro e w' ⟨rfl, d, rfl⟩))
        go_ret
        exact ⟨ret_int hr.out.symm, d, rfl⟩

/-- The number of the cell to the east, or -1; and whether there is one. -/
def eaOk (h n : Int) : Bool := nuOk h n && decide (unX h n + 1 < 2 ^ h.toNat)
def eaI (h n : Int) : Int := if eaOk h n then (wv (un n.toNat + 1) (un (n.toNat / 2)) : Nat) else -1

theorem specEast_c (h n : Int) (w : World) :
    Calls Try.prog 21 #[.int .i64 h, .int .i64 n] w fun e w' => e = .returned (.tuple #[.int .i64 (eaI h n), .bool (eaOk h n)]) ∧ ∃ d, w.drewN d = w' := by
  cases hv : nuOk h n with
  | false =>
    have hr : Hid (eaI h n = -1 ∧ eaOk h n = false) := by unfold eaI eaOk; rw [hv]; exact ⟨rfl, rfl⟩
    go_enter Try.func21, Try.ntmps21
    go_wp2_with (go_at_call 17; refine (specUnwoven_c _ _ _).mono ?_; rintro e w' ⟨rfl, rfl⟩)
    go_ret2
    exact ⟨ret_ib hr.out.1.symm hr.out.2.symm, 0, rfl⟩
  | true =>
    obtain ⟨k, a, rfl, rfl, hk, ha⟩ := nuOk_nat hv
    have hw := wrap_pow k (by omega)
    have hu := unX_of hk ha
    have hu2 := unY_of hk ha
    have hlt := unTo_eq k hk a ha
    have h32 := (pow_le32 k hk).2.1
    have hub : un a < 32 := by omega
    by_cases hc : ((un a : Nat) : Int) + 1 < 2 ^ k
    · have hr : Hid (eaI k a = (wv (un a + 1) (un (a / 2)) : Nat) ∧ eaOk k a = true) := by
        have e : eaOk k a = true := by unfold eaOk; rw [hv, hu]; simp [hc]
        unfold eaI; rw [e]; exact ⟨rfl, rfl⟩
      have hx' : un a + 1 < 32 := by have := lt_pow (x := un a + 1) (h := k) hc; omega
      have hy' : un (a / 2) < 32 := by omega
      have e3 : ((un a : Nat) : Int) + 1 = ((un a + 1 : Nat) : Int) := rfl
      have hl := fun w => (show Calls Try.prog 42 #[.int .i64 (((un a : Nat) : Int) + 1), .int .i64 ((un (a / 2) : Nat) : Int)] w fun e w' => e = .returned (.int .i64 (wv (un a + 1) (un (a / 2)) : Nat)) ∧ ∃ d, w.drewN d = w' from l9Woven_c (un a + 1) (un (a / 2)) hx' hy' w)
      have HL := hid hl
      clear hl e3 hlt h32 ha
      go_enter Try.func21, Try.ntmps21
      go_wp2_with (first
        | (go_at_call 17; refine (specUnwoven_c _ _ _).mono ?_; rintro e w' ⟨rfl, rfl⟩)
        | (go_at_call 42; refine (HL.out _).mono ?_; rintro e w' ⟨rfl, d, rfl⟩))
      go_ret2
      exact ⟨ret_ib hr.out.1.symm hr.out.2.symm, d, rfl⟩
    · have hr : Hid (eaI k a = -1 ∧ eaOk k a = false) := by
        have e : eaOk k a = false := by unfold eaOk; rw [hv, hu]; simp [hc]
        unfold eaI; rw [e]; exact ⟨rfl, rfl⟩
      clear hlt ha
      go_enter Try.func21, Try.ntmps21
      go_wp2_with (go_at_call 17; refine (specUnwoven_c _ _ _).mono ?_; rintro e w' ⟨rfl, rfl⟩)
      go_ret2
      exact ⟨ret_ib hr.out.1.symm hr.out.2.symm, 0, rfl⟩

/-- The program's way: all bits of the other kind set, 1 more, and those of the other kind taken from the number. -/
theorem east_eq : ∀ a : Nat, a < 1024 → un a + 1 < 32 → bits .or .i64 (bits .and .i64 (bits .or .i64 a 43690 + 1) 21845) (bits .and .i64 a 43690) = (wv (un a + 1) (un (a / 2)) : Nat) ∧ 0 ≤ bits .or .i64 a 43690 ∧ bits .or .i64 a 43690 < 65536 := by decide +kernel

theorem implEast_c (h n : Int) (w : World) :
    Calls Try.prog 22 #[.int .i64 h, .int .i64 n] w fun e w' => e = .returned (.tuple #[.int .i64 (eaI h n), .bool (eaOk h n)]) ∧ w = w' := by
  cases hv : nuOk h n with
  | false =>
    have hr : Hid (eaI h n = -1 ∧ eaOk h n = false) := by unfold eaI eaOk; rw [hv]; exact ⟨rfl, rfl⟩
    go_enter Try.func22, Try.ntmps22
    go_wp2_with (go_at_call 18; refine (implUnwoven_c _ _ _).mono ?_; rintro e w' ⟨rfl, rfl⟩)
    go_ret2
    exact ⟨ret_ib hr.out.1.symm hr.out.2.symm, rfl⟩
  | true =>
    obtain ⟨k, a, rfl, rfl, hk, ha⟩ := nuOk_nat hv
    have hu := unX_of hk ha
    have hu2 := unY_of hk ha
    have hlt := unTo_eq k hk a ha
    have h32 := (pow_le32 k hk).2.1
    have hub : un a < 32 := by omega
    by_cases hc : ((un a : Nat) : Int) + 1 < 2 ^ k
    · have hr : Hid (eaI k a = (wv (un a + 1) (un (a / 2)) : Nat) ∧ eaOk k a = true) := by
        have e : eaOk k a = true := by unfold eaOk; rw [hv, hu]; simp [hc]
        unfold eaI; rw [e]; exact ⟨rfl, rfl⟩
      have hx2 : un a + 1 < 2 ^ k := lt_pow (x := un a + 1) (h := k) hc
      have hce : ceOk k (((un a : Nat) : Int) + 1) ((un (a / 2) : Nat) : Int) = true := ceOk_of (a := un a + 1) hk hx2 hlt.2.2.2
      have h1024 : a < 1024 := by
        have h5 := (pow_le32 k hk).2.2.2
        have h6 : 4 ^ k ≤ 1024 := by rw [← h5.2.2]; have := h5.1; rw [← cast_pow] at this; omega
        omega
      obtain ⟨e1, e2, e3⟩ := east_eq a h1024 (by omega)
      have E1 := hid e1
      clear e1 hlt h32 ha hx2
      go_enter Try.func22, Try.ntmps22
      go_wp2_with (first
        | (go_at_call 18; refine (implUnwoven_c _ _ _).mono ?_; rintro e w' ⟨rfl, rfl⟩)
        | (go_at_call 43; refine (cellOk_c _ _ _ _).mono ?_; rintro e w' ⟨rfl, rfl⟩))
      go_ret2
      exact ⟨ret_ib (E1.out.trans hr.out.1.symm) hr.out.2.symm, rfl⟩
    · have hr : Hid (eaI k a = -1 ∧ eaOk k a = false) := by
        have e : eaOk k a = false := by unfold eaOk; rw [hv, hu]; simp [hc]
        unfold eaI; rw [e]; exact ⟨rfl, rfl⟩
      have hce : ceOk k (((un a : Nat) : Int) + 1) ((un (a / 2) : Nat) : Int) = false := by
        unfold ceOk; simp only [Int.toNat_natCast]
        rw [show (decide (0 ≤ ((un a : Nat) : Int) + 1) && decide (((un a : Nat) : Int) + 1 < 2 ^ k)) = false by simp [hc]]
        simp
      clear hlt ha
      go_enter Try.func22, Try.ntmps22
      go_wp2_with (first
        | (go_at_call 18; refine (implUnwoven_c _ _ _).mono ?_; rintro e w' ⟨rfl, rfl⟩)
        | (go_at_call 43; refine (cellOk_c _ _ _ _).mono ?_; rintro e w' ⟨rfl, rfl⟩))
      go_ret2
      exact ⟨ret_ib hr.out.1.symm hr.out.2.symm, rfl⟩
end Go.Proofs.Ytbklcalpojkjfaa
