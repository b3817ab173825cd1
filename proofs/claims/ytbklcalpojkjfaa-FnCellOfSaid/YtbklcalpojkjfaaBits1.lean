/- Contracts: halvesOk, cellOk, gathered, spread, impl.WovenOf, impl.UnwovenOf. -/
import Derived.Test.YtbklcalpojkjfaaL1In
import Derived.Test.YtbklcalpojkjfaaBitsP
import Derived.Outline
namespace Go.Proofs.Ytbklcalpojkjfaa
open Go.RowKit TW

theorem halvesOk_c (h : Int) (w : World) :
    Calls Try.prog 40 #[.int .i64 h] w fun e w' => e = .returned (.bool (hvOk h)) ∧ w = w' := by
  by_cases h1 : 0 ≤ h
  · go_enter Try.func40, Try.ntmps40
    go_wp2
    go_ret
    exact ⟨ret_bool (by unfold hvOk; simp; omega), rfl⟩
  · go_enter Try.func40, Try.ntmps40
    go_wp2
    go_ret
    exact ⟨ret_bool (by unfold hvOk; simp; omega), rfl⟩

theorem cellOk_c (h x y : Int) (w : World) :
    Calls Try.prog 43 #[.int .i64 h, .int .i64 x, .int .i64 y] w fun e w' => e = .returned (.bool (ceOk h x y)) ∧ w = w' := by
  cases hv : hvOk h with
  | false =>
    have hr : Hid (ceOk h x y = false) := by unfold ceOk; rw [hv]; rfl
    go_enter Try.func43, Try.ntmps43
    go_wp2_with (go_at_call 40; refine (halvesOk_c _ _).mono ?_; rintro e w' ⟨rfl, rfl⟩)
    go_ret
    exact ⟨ret_bool (by rw [hr.out]), rfl⟩
  | true =>
    obtain ⟨k, rfl, hk⟩ := hvOk_nat hv
    have hr : Hid (ceOk k x y = ((decide (0 ≤ x) && decide (x < 2 ^ k)) && (decide (0 ≤ y) && decide (y < 2 ^ k)))) := by unfold ceOk; rw [hv]; rfl
    have hw := wrap_pow k (by omega)
    by_cases h1 : 0 ≤ x <;> by_cases h2 : x < 2 ^ k <;> by_cases h3 : 0 ≤ y
    all_goals
      go_enter Try.func43, Try.ntmps43
      go_wp2_with (go_at_call 40; refine (halvesOk_c _ _).mono ?_; rintro e w' ⟨rfl, rfl⟩)
      go_ret
      exact ⟨ret_bool (by rw [hr.out]; (simp [*]) <;> (intros; omega)), rfl⟩

theorem gathered_c (n : Nat) (h1 : n < 1024) (w : World) :
    Calls Try.prog 41 #[.int .i64 n] w fun e w' => e = .returned (.int .i64 (un n : Nat)) ∧ w = w' := by
  have hr := hid (gathI_eq n h1)
  go_enter Try.func41, Try.ntmps41
  go_wp2
  go_ret
  exact ⟨ret_int hr.out, rfl⟩
theorem spread_c (n : Nat) (h1 : n < 32) (w : World) :
    Calls Try.prog 44 #[.int .i64 n] w fun e w' => e = .returned (.int .i64 (wv n 0 : Nat)) ∧ w = w' := by
  have hr := hid (spreadI_eq n h1)
  go_enter Try.func44, Try.ntmps44
  go_wp2
  go_ret
  exact ⟨ret_int hr.out, rfl⟩
end Go.Proofs.Ytbklcalpojkjfaa
