/- Contracts: how the curve lies in a quarter (put, into, quarterAt, digitAt). -/
import Derived.Test.YtbklcalpojkjfaaHilQ
import Derived.Test.YtbklcalpojkjfaaHil2
import Derived.Test.YtbklcalpojkjfaaBits2
namespace Go.Proofs.Ytbklcalpojkjfaa
open Go.RowKit TW

theorem put_c (t e n : Nat) (ht : t < 4) (he : e < 2) (hn : n < 2) (w : World) :
    Calls Try.prog 53 #[.int .i64 t, .int .i64 e, .int .i64 n] w fun r w' => r = .returned (.tuple #[.int .i64 (pE t e n : Nat), .int .i64 (pN t e n : Nat)]) ∧ w = w' := by
  obtain rfl | rfl : e = 0 ∨ e = 1 := by omega
  all_goals
    obtain rfl | rfl : n = 0 ∨ n = 1 := by omega
  all_goals
    obtain rfl | rfl | rfl | rfl : t = 0 ∨ t = 1 ∨ t = 2 ∨ t = 3 := by omega
  all_goals
    go_enter Try.func53, Try.ntmps53
    go_wp2
    go_ret2
    exact ⟨ret_ii (by decide +kernel) (by decide +kernel), rfl⟩
theorem into_c (t q : Nat) (ht : t < 4) (hq : q < 4) (w : World) :
    Calls Try.prog 54 #[.int .i64 t, .int .i64 q] w fun r w' => r = .returned (.int .i64 (qT t q : Nat)) ∧ w = w' := by
  obtain rfl | rfl | rfl | rfl : t = 0 ∨ t = 1 ∨ t = 2 ∨ t = 3 := by omega
  all_goals
    obtain rfl | rfl | rfl | rfl : q = 0 ∨ q = 1 ∨ q = 2 ∨ q = 3 := by omega
  all_goals
    go_enter Try.func54, Try.ntmps54
    go_wp2
    go_ret
    exact ⟨ret_int (by decide +kernel), rfl⟩
theorem q_put : ∀ t : Nat, t < 4 → pE t 0 0 = qE t 0 ∧ pN t 0 0 = qN t 0 ∧ pE t 0 1 = qE t 1 ∧ pN t 0 1 = qN t 1 ∧ pE t 1 1 = qE t 2 ∧ pN t 1 1 = qN t 2 ∧ pE t 1 0 = qE t 3 ∧ pN t 1 0 = qN t 3 := by decide +kernel
theorem ret_iii {k : IntKind} {a a' b b' c c' : Int} (h : a = a') (g : b = b') (f : c = c') : Ending.returned (.tuple #[.int k a, .int k b, .int k c]) = .returned (.tuple #[.int k a', .int k b', .int k c']) := by rw [h, g, f]
theorem quarterAt_c (t q : Nat) (ht : t < 4) (hq : q < 4) (w : World) :
    Calls Try.prog 48 #[.int .i64 t, .int .i64 q] w fun r w' => r = .returned (.tuple #[.int .i64 (qE t q : Nat), .int .i64 (qN t q : Nat), .int .i64 (qT t q : Nat)]) ∧ w = w' := by
  obtain ⟨p1, p2, p3, p4, p5, p6, p7, p8⟩ := q_put t ht
  obtain rfl | rfl | rfl | rfl : q = 0 ∨ q = 1 ∨ q = 2 ∨ q = 3 := by omega
  · have hr := hid (And.intro p1 p2)
    have HP := hid (fun w => put_c t 0 0 ht (by omega) (by omega) w)
    have HI := hid (fun w => into_c t 0 ht hq w)
    clear p1 p2 p3 p4 p5 p6 p7 p8
    go_enter Try.func48, Try.ntmps48
    go_wp2_with (first
      | (go_at_call 53; refine (HP.out _).mono ?_; rintro e w' ⟨rfl, rfl⟩)
      | (go_at_call 54; refine (HI.out _).mono ?_; rintro e w' ⟨rfl, rfl⟩))
    go_ret3
    exact ⟨ret_iii (by rw [hr.out.1]) (by rw [hr.out.2]) rfl, rfl⟩
  · have hr := hid (And.intro p3 p4)
    have HP := hid (fun w => put_c t 0 1 ht (by omega) (by omega) w)
    have HI := hid (fun w => into_c t 1 ht hq w)
    clear p1 p2 p3 p4 p5 p6 p7 p8
    go_enter Try.func48, Try.ntmps48
    go_wp2_with (first
      | (go_at_call 53; refine (HP.out _).mono ?_; rintro e w' ⟨rfl, rfl⟩)
      | (go_at_call 54; refine (HI.out _).mono ?_; rintro e w' ⟨rfl, rfl⟩))
    go_ret3
    exact ⟨ret_iii (by rw [hr.out.1]) (by rw [hr.out.2]) rfl, rfl⟩
  · have hr := hid (And.intro p5 p6)
    have HP := hid (fun w => put_c t 1 1 ht (by omega) (by omega) w)
    have HI := hid (fun w => into_c t 2 ht hq w)
    clear p1 p2 p3 p4 p5 p6 p7 p8
    go_enter Try.func48, Try.ntmps48
    go_wp2_with (first
      | (go_at_call 53; refine (HP.out _).mono ?_; rintro e w' ⟨rfl, rfl⟩)
      | (go_at_call 54; refine (HI.out _).mono ?_; rintro e w' ⟨rfl, rfl⟩))
    go_ret3
    exact ⟨ret_iii (by rw [hr.out.1]) (by rw [hr.out.2]) rfl, rfl⟩
  · have hr := hid (And.intro p7 p8)
    have HP := hid (fun w => put_c t 1 0 ht (by omega) (by omega) w)
    have HI := hid (fun w => into_c t 3 ht hq w)
    clear p1 p2 p3 p4 p5 p6 p7 p8
    go_enter Try.func48, Try.ntmps48
    go_wp2_with (first
      | (go_at_call 53; refine (HP.out _).mono ?_; rintro e w' ⟨rfl, rfl⟩)
      | (go_at_call 54; refine (HI.out _).mono ?_; rintro e w' ⟨rfl, rfl⟩))
    go_ret3
    exact ⟨ret_iii (by rw [hr.out.1]) (by rw [hr.out.2]) rfl, rfl⟩
theorem digit_put : ∀ t : Nat, t < 4 → ∀ e : Nat, e < 2 → ∀ n : Nat, n < 2 → bits .xor .i64 (3 * (pE t e n : Nat)) (pN t e n : Nat) = (qD t e n : Nat) ∧ pE t e n < 2 ∧ pN t e n < 2 := by decide +kernel
theorem digitAt_c (t e n : Nat) (ht : t < 4) (he : e < 2) (hn : n < 2) (w : World) :
    Calls Try.prog 46 #[.int .i64 t, .int .i64 e, .int .i64 n] w fun r w' => r = .returned (.tuple #[.int .i64 (qD t e n : Nat), .int .i64 (qT t (qD t e n) : Nat)]) ∧ w = w' := by
  obtain ⟨eq, hE, hN⟩ := digit_put t ht e he n hn
  have HP := hid (fun w => put_c t e n ht he hn w)
  have HI := hid (fun w => into_c t (qD t e n) ht (qD_bd t ht e he n hn) w)
  go_enter Try.func46, Try.ntmps46
  go_wp2_with (first
    | (go_at_call 53; refine (HP.out _).mono ?_; rintro e w' ⟨rfl, rfl⟩)
    | (go_at_call 54; refine (HI.out _).mono ?_; rintro e w' ⟨rfl, rfl⟩))
  go_ret2
  exact ⟨rfl, rfl⟩
end Go.Proofs.Ytbklcalpojkjfaa
