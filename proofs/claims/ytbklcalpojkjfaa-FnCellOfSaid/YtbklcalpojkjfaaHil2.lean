/- Contracts: spec.CellOf, spec.NumberOf. -/
import Derived.Test.YtbklcalpojkjfaaHil1
namespace Go.Proofs.Ytbklcalpojkjfaa
open Go.RowKit TW

theorem l8Cell_c (k n : Nat) (hk : k < 6) (hn : n < 4 ^ k) (w : World) :
    Calls Try.prog 47 #[.int .i64 k, .int .i64 n] w fun e w' => e = .returned (.tuple #[.int .i64 ((hil k n).1 : Nat), .int .i64 ((hil k n).2 : Nat)]) ∧ w = w' := by
  obtain rfl | rfl | rfl | rfl | rfl | rfl : k = 0 ∨ k = 1 ∨ k = 2 ∨ k = 3 ∨ k = 4 ∨ k = 5 := by omega
  · exact l8Cell_0 n w
  · exact l8Cell_1 n hn w
  · exact l8Cell_2 n hn w
  · exact l8Cell_3 n hn w
  · exact l8Cell_4 n hn w
  · exact l8Cell_5 n hn w

theorem l8Number_c (k x y : Nat) (hk : k < 6) (hx : x < 2 ^ k) (hy : y < 2 ^ k) (w : World) :
    Calls Try.prog 45 #[.int .i64 k, .int .i64 x, .int .i64 y] w fun e w' => e = .returned (.int .i64 (num k x y : Nat)) ∧ w = w' := by
  obtain rfl | rfl | rfl | rfl | rfl | rfl : k = 0 ∨ k = 1 ∨ k = 2 ∨ k = 3 ∨ k = 4 ∨ k = 5 := by omega
  · exact l8Number_0 x y w
  · exact l8Number_1 x y hx hy w
  · exact l8Number_2 x y hx hy w
  · exact l8Number_3 x y hx hy w
  · exact l8Number_4 x y hx hy w
  · exact l8Number_5 x y hx hy w

theorem specCell_c (h n : Int) (w : World) :
    Calls Try.prog 25 #[.int .i64 h, .int .i64 n] w fun e w' => e = .returned (.tuple #[.int .i64 (hX h n), .int .i64 (hY h n), .bool (nuOk h n)]) ∧ w = w' := by
  cases hv : hvOk h with
  | false =>
    have hf : nuOk h n = false := by unfold nuOk; rw [hv]; rfl
    have hr : Hid (hX h n = 0 ∧ hY h n = 0) := by unfold hX hY; rw [hf]; exact ⟨rfl, rfl⟩
    have HF := hid hf; clear hf
    have hv2 : (decide (0 ≤ h) && decide (h ≤ 5)) = false := hv
    go_enter Try.func25, Try.ntmps25
    go_wp2_with (go_at_call 39; refine (l1In_c _ _ _ _).mono ?_; rintro e w' ⟨rfl, rfl⟩)
    go_ret3
    exact ⟨ret_iib hr.out.1.symm hr.out.2.symm HF.out.symm, rfl⟩
  | true =>
    obtain ⟨k, rfl, hk⟩ := hvOk_nat hv
    have hv2 : (decide (0 ≤ (k : Int)) && decide ((k : Int) ≤ 5)) = true := hv
    have hw := wrap_pow (2 * k) (by omega)
    have hw1 := wrap_pow1 (2 * k) (by omega)
    have e2 : (2 * (k : Int)).toNat = 2 * k := by omega
    have hs : nuOk k n = (decide (0 ≤ n) && decide (n < 2 ^ (2 * k))) := by unfold nuOk; rw [hv]; rfl
    have hs2 : nuOk k n = (decide (0 ≤ n) && decide (n ≤ 2 ^ (2 * k) - 1)) := by rw [hs, le_pred]
    cases ht : nuOk k n with
    | false =>
      have hr : Hid (hX k n = 0 ∧ hY k n = 0) := by unfold hX hY; rw [ht]; exact ⟨rfl, rfl⟩
      have hs3 := hs2.symm.trans ht
      clear ht hs hs2
      go_enter Try.func25, Try.ntmps25
      go_wp2_with (go_at_call 39; refine (l1In_c _ _ _ _).mono ?_; rintro e w' ⟨rfl, rfl⟩)
      go_ret3
      exact ⟨ret_iib hr.out.1.symm hr.out.2.symm rfl, rfl⟩
    | true =>
      obtain ⟨k', a, e1, rfl, _, ha⟩ := nuOk_nat ht
      obtain rfl : k = k' := by omega
      have hs3 := hs2.symm.trans ht
      have hr : Hid (hX k a = ((hil k a).1 : Nat) ∧ hY k a = ((hil k a).2 : Nat)) := ⟨hX_of hk ha, hY_of hk ha⟩
      have hs4 : (a : Int) ≤ 2 ^ (2 * k) - 1 := by simp only [Bool.and_eq_true, decide_eq_true_eq] at hs3; exact hs3.2
      have hs5 : (k : Int) ≤ 5 := by omega
      have HT := hid ht
      have HL := hid (fun w => l8Cell_c k a hk ha w)
      clear ht hs hs2 ha e1 hs3 hv2
      go_enter Try.func25, Try.ntmps25
      go_wp2_with (first
        | (go_at_call 39; refine (l1In_c _ _ _ _).mono ?_; rintro e w' ⟨rfl, rfl⟩)
        | (go_at_call 47; refine (HL.out _).mono ?_; rintro e w' ⟨rfl, rfl⟩))
      go_ret3
      exact ⟨ret_iib hr.out.1.symm hr.out.2.symm rfl, rfl⟩

theorem specNumber_c (h x y : Int) (w : World) :
    Calls Try.prog 23 #[.int .i64 h, .int .i64 x, .int .i64 y] w fun e w' => e = .returned (.int .i64 (hN h x y)) ∧ w = w' := by
  cases hv : hvOk h with
  | false =>
    have hr : Hid (hN h x y = -1) := by unfold hN ceOk; rw [hv]; rfl
    have hv2 : (decide (0 ≤ h) && decide (h ≤ 5)) = false := hv
    go_enter Try.func23, Try.ntmps23
    go_wp2_with (go_at_call 39; refine (l1In_c _ _ _ _).mono ?_; rintro e w' ⟨rfl, rfl⟩)
    go_ret
    exact ⟨ret_int hr.out.symm, rfl⟩
  | true =>
    obtain ⟨k, rfl, hk⟩ := hvOk_nat hv
    have hv2 : (decide (0 ≤ (k : Int)) && decide ((k : Int) ≤ 5)) = true := hv
    have hw := wrap_pow k (by omega)
    have hw1 := wrap_pow1 k (by omega)
    have hs : ceOk k x y = ((decide (0 ≤ x) && decide (x ≤ 2 ^ k - 1)) && (decide (0 ≤ y) && decide (y ≤ 2 ^ k - 1))) := by rw [le_pred, le_pred]; unfold ceOk; rw [hv]; rfl
    cases hx : (decide (0 ≤ x) && decide (x ≤ 2 ^ k - 1)) with
    | false =>
      have hr : Hid (hN k x y = -1) := by unfold hN; rw [hs, hx]; rfl
      clear hs
      go_enter Try.func23, Try.ntmps23
      go_wp2_with (go_at_call 39; refine (l1In_c _ _ _ _).mono ?_; rintro e w' ⟨rfl, rfl⟩)
      go_ret
      exact ⟨ret_int hr.out.symm, rfl⟩
    | true =>
      cases hy : (decide (0 ≤ y) && decide (y ≤ 2 ^ k - 1)) with
      | false =>
        have hr : Hid (hN k x y = -1) := by unfold hN; rw [hs, hx, hy]; rfl
        clear hs
        go_enter Try.func23, Try.ntmps23
        go_wp2_with (go_at_call 39; refine (l1In_c _ _ _ _).mono ?_; rintro e w' ⟨rfl, rfl⟩)
        go_ret
        exact ⟨ret_int hr.out.symm, rfl⟩
      | true =>
        have hc : ceOk k x y = true := by rw [hs, hx, hy]; rfl
        clear hs
        obtain ⟨k', a, b, e1, rfl, rfl, _, ha, hb⟩ := ceOk_nat hc
        obtain rfl : k = k' := by omega
        have h32 := (pow_le32 k hk).2.1
        have ha' : a < 32 := by omega
        have hb' : b < 32 := by omega
        have hr := hid (hN_of hk ha hb)
        have HL := hid (fun w => l8Number_c k a b hk ha hb w)
        have hx1 : (a : Int) ≤ 2 ^ k - 1 := by simp only [Bool.and_eq_true, decide_eq_true_eq] at hx; exact hx.2
        have hy1 : (b : Int) ≤ 2 ^ k - 1 := by simp only [Bool.and_eq_true, decide_eq_true_eq] at hy; exact hy.2
        have hk5 : (k : Int) ≤ 5 := by omega
        clear e1 hc ha hb hx hy hv2
        go_enter Try.func23, Try.ntmps23
        go_wp2_with (first
          | (go_at_call 39; refine (l1In_c _ _ _ _).mono ?_; rintro e w' ⟨rfl, rfl⟩)
          | (go_at_call 45; refine (HL.out _).mono ?_; rintro e w' ⟨rfl, rfl⟩))
        go_ret
        exact ⟨ret_int hr.out.symm, rfl⟩

end Go.Proofs.Ytbklcalpojkjfaa
