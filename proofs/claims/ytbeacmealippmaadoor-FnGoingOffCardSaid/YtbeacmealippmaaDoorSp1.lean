/- Contracts: l1In, orderOk, SpiralOk of both packages. -/
import Derived.Test.YtbeacmealippmaaDoorL1In
namespace Go.Proofs.YtbeacmealippmaaDoor
open Go.RowKit

theorem orderOk_c (n : Int) (w : World) :
    Calls Tryd.prog 28 #[.int .i64 n] w fun e w' => e = .returned (.bool (decide (1 ≤ n) && decide (n ≤ 9))) ∧ w = w' := by
  by_cases h1 : 1 ≤ n
  · by_cases h2 : n ≤ 9
    · go_enter Tryd.func28, Tryd.ntmps28
      go_wp2
      go_ret
      exact ⟨ret_bool (by simp; omega), rfl⟩
    · go_enter Tryd.func28, Tryd.ntmps28
      go_wp2
      go_ret
      exact ⟨ret_bool (by simp; omega), rfl⟩
  · go_enter Tryd.func28, Tryd.ntmps28
    go_wp2
    go_ret
    exact ⟨ret_bool (by simp; omega), rfl⟩

/-- Is there such a spiral? -/
def spOk (o r : Int) : Bool := decide (1 ≤ o) && decide (o ≤ 9) && (decide (0 ≤ r) && decide (r < 2 ^ o.toNat))

theorem le_pred (a b : Int) : decide (a ≤ b - 1) = decide (a < b) := by simp only [decide_eq_decide]; omega
theorem wrap_pow : ∀ k : Nat, k < 63 → wrap64 (2 ^ k) = 2 ^ k := by decide +kernel
theorem wrap_pow1 : ∀ k : Nat, k < 63 → wrap64 (2 ^ k - 1) = 2 ^ k - 1 := by decide +kernel

theorem implSpiralOk_c (o r : Int) (w : World) :
    Calls Tryd.prog 24 #[.int .i64 o, .int .i64 r] w fun e w' => e = .returned (.bool (spOk o r)) ∧ w = w' := by
  by_cases h : 1 ≤ o ∧ o ≤ 9
  · obtain ⟨h1, h2⟩ := h
    have hb : (decide (1 ≤ o) && decide (o ≤ 9)) = true := by simp; omega
    have hw := hid (wrap_pow o.toNat (by omega))
    have hs : Hid (spOk o r = (decide (0 ≤ r) && decide (r < 2 ^ o.toNat))) := by unfold spOk; rw [hb]; rfl
    by_cases h3 : 0 ≤ r
    · go_enter Tryd.func24, Tryd.ntmps24
      go_wp2_with (go_at_call 28; refine (orderOk_c _ _).mono ?_; rintro e w' ⟨rfl, rfl⟩)
      go_ret
      exact ⟨ret_bool (by rw [hs.out, hw.out]; simp; intro; omega), rfl⟩
    · go_enter Tryd.func24, Tryd.ntmps24
      go_wp2_with (go_at_call 28; refine (orderOk_c _ _).mono ?_; rintro e w' ⟨rfl, rfl⟩)
      go_ret
      exact ⟨ret_bool (by rw [hs.out]; simp; omega), rfl⟩
  · have hb : (decide (1 ≤ o) && decide (o ≤ 9)) = false := by simp; omega
    have hs : Hid (spOk o r = false) := by unfold spOk; rw [hb]; rfl
    clear h
    go_enter Tryd.func24, Tryd.ntmps24
    go_wp2_with (go_at_call 28; refine (orderOk_c _ _).mono ?_; rintro e w' ⟨rfl, rfl⟩)
    go_ret
    exact ⟨ret_bool (by rw [hs.out]), rfl⟩

theorem specSpiralOk_c (o r : Int) (w : World) :
    Calls Tryd.prog 13 #[.int .i64 o, .int .i64 r] w fun e w' => e = .returned (.bool (spOk o r)) ∧ w = w' := by
  by_cases h : 1 ≤ o ∧ o ≤ 9
  · obtain ⟨h1, h2⟩ := h
    have hb : (decide (1 ≤ o) && decide (o ≤ 9)) = true := by simp; omega
    have hw := hid (wrap_pow o.toNat (by omega))
    have hs : Hid (spOk o r = (decide (0 ≤ r) && decide (r < 2 ^ o.toNat))) := by unfold spOk; rw [hb]; rfl
    have hw1 := hid (wrap_pow1 o.toNat (by omega))
    go_enter Tryd.func13, Tryd.ntmps13
    go_wp2_with (go_at_call 27; refine (l1In_c _ _ _ _).mono ?_; rintro e w' ⟨rfl, rfl⟩)
    go_ret
    exact ⟨ret_bool (by rw [hs.out, hw.out, hw1.out, le_pred]), rfl⟩
  · have hb : (decide (1 ≤ o) && decide (o ≤ 9)) = false := by simp; omega
    have hs : Hid (spOk o r = false) := by unfold spOk; rw [hb]; rfl
    clear h
    go_enter Tryd.func13, Tryd.ntmps13
    go_wp2_with (go_at_call 27; refine (l1In_c _ _ _ _).mono ?_; rintro e w' ⟨rfl, rfl⟩)
    go_ret
    exact ⟨ret_bool (by rw [hs.out]), rfl⟩
end Go.Proofs.YtbeacmealippmaaDoor
