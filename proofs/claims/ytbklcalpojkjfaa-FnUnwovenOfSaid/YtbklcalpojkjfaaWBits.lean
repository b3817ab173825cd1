/- The walks of FnUnwovenOf, FnWovenOf, FnEastOf. -/
import Derived.Test.YtbklcalpojkjfaaBits3
import Derived.Test.YtbklcalpojkjfaaDrawH
import Derived.Test.YtbklcalpojkjfaaAlive
namespace Go.Proofs.Ytbklcalpojkjfaa
open Go.RowKit TW

theorem un_quarter : ∀ k : Nat, k < 6 → 1 ≤ k → ∀ a : Nat, a < 4 ^ k → (if 2 ^ k ≤ 2 * un a then 1 else 0) + (if 2 ^ k ≤ 2 * un (a / 2) then 2 else 0) = 4 * a / (2 ^ k * 2 ^ k) := by decide +kernel
theorem wv_swap : ∀ a : Nat, a < 32 → ∀ b : Nat, b < 32 → ∀ j : Nat, j < 5 → wv a b / 4 ^ j % 2 = wv b a / (2 * 4 ^ j) % 2 ∧ wv a b / (2 * 4 ^ j) % 2 = wv b a / 4 ^ j % 2 := by decide +kernel

theorem unX_no {h n : Int} (e : nuOk h n = false) : unX h n = 0 ∧ unY h n = 0 := by unfold unX unY; rw [e]; exact ⟨rfl, rfl⟩
theorem woI_no {h x y : Int} (e : ceOk h x y = false) : woI h x y = -1 := by unfold woI; rw [e]; rfl

set_option maxRecDepth 100000 in
set_option maxHeartbeats 4000000 in
theorem walk_FnUnwovenOf (a : Option Addr) (len cap : Nat) (zs : List Int) (w : World) (h : IsRow .u8 w a len cap zs) :
    Calls Try.prog 8 #[.slice a len cap] w fun e w' => e = .returned (.bool true) ∧ Below w.heap.size w w' := by
  by_cases hbig : 1048576 < len
  · go_enter Try.func8, Try.ntmps8
    go_wp2
    go_ret
    exact ⟨rfl, Below.refl _ _⟩
  · go_enter Try.func8, Try.ntmps8
    go_wp2_with fail
    refine (drawUnwovenOf_c _ _ _ _ _ h).mono ?_
    rintro e w1 ⟨o, r, rfl, _, _, _, _, hb⟩
    have HB := hid hb
    clear hb h
    cases hok : nuOk o r with
    | false =>
      obtain ⟨e1, e2⟩ := unX_no hok
      go_wp2_with (first
        | (go_at_call 17; refine (specUnwoven_c _ _ _).mono ?_; rintro e w' ⟨rfl, rfl⟩)
        | (go_at_call 18; refine (implUnwoven_c _ _ _).mono ?_; rintro e w' ⟨rfl, rfl⟩)
        | (go_at_call 28; refine (alive_c _).mono ?_; rintro e w' ⟨rfl, rfl⟩))
      go_ret
      exact ⟨rfl, HB.out⟩
    | true =>
      obtain ⟨k, n, rfl, rfl, hk, hn⟩ := nuOk_nat hok
      have f0 := unTo_eq k hk n hn
      have f1 := unX_of hk hn
      have f6 := nuOk_of hk hn
      have f2 := unY_of hk hn
      have h1024 : n < 1024 := by
        have h5 := (pow_le32 k hk).2.2.2
        have h6 : 4 ^ k ≤ 1024 := by rw [← h5.2.2]; have := h5.1; rw [← cast_pow] at this; omega
        omega
      have f3 : woI k ((un n : Nat) : Int) ((un (n / 2) : Nat) : Int) = n := by rw [woI_of hk f0.2.2.1 f0.2.2.2, (wv_un n h1024).1]
      have f4 := un_quarter k hk
      have g1 := f0.2.2.1
      have g2 := f0.2.2.2
      clear f0
      obtain rfl | rfl | rfl | rfl | rfl | rfl : k = 0 ∨ k = 1 ∨ k = 2 ∨ k = 3 ∨ k = 4 ∨ k = 5 := by omega
      · clear f1 f2 f3 f4 f6 hok g1 g2
        obtain rfl : n = 0 := by simp at hn; omega
        have c1 : unX 0 0 = 0 := by decide
        have c2 : unY 0 0 = 0 := by decide
        have c3 : nuOk 0 0 = true := by decide
        have c4 : woI 0 0 0 = 0 := by decide
        all_goals
          go_wp2_with (first
            | (go_at_call 17; refine (specUnwoven_c _ _ _).mono ?_; rintro e w' ⟨rfl, rfl⟩)
            | (go_at_call 18; refine (implUnwoven_c _ _ _).mono ?_; rintro e w' ⟨rfl, rfl⟩)
            | (go_at_call 20; refine (implWoven_c _ _ _ _).mono ?_; rintro e w' ⟨rfl, rfl⟩)
            | (go_at_call 28; refine (alive_c _).mono ?_; rintro e w' ⟨rfl, rfl⟩))
          go_ret
          exact ⟨rfl, HB.out⟩
      · clear f1 f2 f3 f4 f6 hok g1 g2
        obtain rfl | rfl | rfl | rfl : n = 0 ∨ n = 1 ∨ n = 2 ∨ n = 3 := by simp at hn; omega
        · have c1 : unX 1 0 = 0 := by decide
          have c2 : unY 1 0 = 0 := by decide
          have c3 : nuOk 1 0 = true := by decide
          have c4 : woI 1 0 0 = 0 := by decide
          go_wp2_with (first
            | (go_at_call 17; refine (specUnwoven_c _ _ _).mono ?_; rintro e w' ⟨rfl, rfl⟩)
            | (go_at_call 18; refine (implUnwoven_c _ _ _).mono ?_; rintro e w' ⟨rfl, rfl⟩)
            | (go_at_call 20; refine (implWoven_c _ _ _ _).mono ?_; rintro e w' ⟨rfl, rfl⟩)
            | (go_at_call 28; refine (alive_c _).mono ?_; rintro e w' ⟨rfl, rfl⟩))
          go_ret
          exact ⟨rfl, HB.out⟩
        · have c1 : unX 1 1 = 1 := by decide
          have c2 : unY 1 1 = 0 := by decide
          have c3 : nuOk 1 1 = true := by decide
          have c4 : woI 1 1 0 = 1 := by decide
          go_wp2_with (first
            | (go_at_call 17; refine (specUnwoven_c _ _ _).mono ?_; rintro e w' ⟨rfl, rfl⟩)
            | (go_at_call 18; refine (implUnwoven_c _ _ _).mono ?_; rintro e w' ⟨rfl, rfl⟩)
            | (go_at_call 20; refine (implWoven_c _ _ _ _).mono ?_; rintro e w' ⟨rfl, rfl⟩)
            | (go_at_call 28; refine (alive_c _).mono ?_; rintro e w' ⟨rfl, rfl⟩))
          go_ret
          exact ⟨rfl, HB.out⟩
        · have c1 : unX 1 2 = 0 := by decide
          have c2 : unY 1 2 = 1 := by decide
          have c3 : nuOk 1 2 = true := by decide
          have c4 : woI 1 0 1 = 2 := by decide
          go_wp2_with (first
            | (go_at_call 17; refine (specUnwoven_c _ _ _).mono ?_; rintro e w' ⟨rfl, rfl⟩)
            | (go_at_call 18; refine (implUnwoven_c _ _ _).mono ?_; rintro e w' ⟨rfl, rfl⟩)
            | (go_at_call 20; refine (implWoven_c _ _ _ _).mono ?_; rintro e w' ⟨rfl, rfl⟩)
            | (go_at_call 28; refine (alive_c _).mono ?_; rintro e w' ⟨rfl, rfl⟩))
          go_ret
          exact ⟨rfl, HB.out⟩
        · have c1 : unX 1 3 = 1 := by decide
          have c2 : unY 1 3 = 1 := by decide
          have c3 : nuOk 1 3 = true := by decide
          have c4 : woI 1 1 1 = 3 := by decide
          go_wp2_with (first
            | (go_at_call 17; refine (specUnwoven_c _ _ _).mono ?_; rintro e w' ⟨rfl, rfl⟩)
            | (go_at_call 18; refine (implUnwoven_c _ _ _).mono ?_; rintro e w' ⟨rfl, rfl⟩)
            | (go_at_call 20; refine (implWoven_c _ _ _ _).mono ?_; rintro e w' ⟨rfl, rfl⟩)
            | (go_at_call 28; refine (alive_c _).mono ?_; rintro e w' ⟨rfl, rfl⟩))
          go_ret
          exact ⟨rfl, HB.out⟩
      · have c1 : unX 2 n = (un n : Nat) := f1
        have c2 : unY 2 n = (un (n / 2) : Nat) := f2
        have c3 : nuOk 2 n = true := f6
        have c4 : woI 2 ((un n : Nat) : Int) ((un (n / 2) : Nat) : Int) = n := f3
        clear f1 f2 f3 f6 hok
        have f5 := f4 (by omega) n hn
        clear f4
        simp only [Nat.reducePow, Nat.reduceMul] at f5 g1 g2
        by_cases q1 : (4:Int) ≤ 2 * (un n : Nat) <;> by_cases q2 : (4:Int) ≤ 2 * (un (n / 2) : Nat)
        all_goals
          have f7 : 4 ≤ 2 * un n ↔ (4:Int) ≤ 2 * (un n : Nat) := by omega
          have f8 : 4 ≤ 2 * un (n / 2) ↔ (4:Int) ≤ 2 * (un (n / 2) : Nat) := by omega
          simp only [f7, f8, q1, q2, if_true, if_false] at f5
          have f9 : (4 * (n:Int)) / 16 = (4 * n / 16 : Nat) := (Int.natCast_ediv (4 * n) 16).symm ▸ rfl
          rw [← f5] at f9
          simp at f9
          clear f5 f7 f8
          go_wp2_with (first
            | (go_at_call 17; refine (specUnwoven_c _ _ _).mono ?_; rintro e w' ⟨rfl, rfl⟩)
            | (go_at_call 18; refine (implUnwoven_c _ _ _).mono ?_; rintro e w' ⟨rfl, rfl⟩)
            | (go_at_call 20; refine (implWoven_c _ _ _ _).mono ?_; rintro e w' ⟨rfl, rfl⟩)
            | (go_at_call 28; refine (alive_c _).mono ?_; rintro e w' ⟨rfl, rfl⟩))
          go_ret
          exact ⟨rfl, HB.out⟩
      · have c1 : unX 3 n = (un n : Nat) := f1
        have c2 : unY 3 n = (un (n / 2) : Nat) := f2
        have c3 : nuOk 3 n = true := f6
        have c4 : woI 3 ((un n : Nat) : Int) ((un (n / 2) : Nat) : Int) = n := f3
        clear f1 f2 f3 f6 hok
        have f5 := f4 (by omega) n hn
        clear f4
        simp only [Nat.reducePow, Nat.reduceMul] at f5 g1 g2
        by_cases q1 : (8:Int) ≤ 2 * (un n : Nat) <;> by_cases q2 : (8:Int) ≤ 2 * (un (n / 2) : Nat)
        all_goals
          have f7 : 8 ≤ 2 * un n ↔ (8:Int) ≤ 2 * (un n : Nat) := by omega
          have f8 : 8 ≤ 2 * un (n / 2) ↔ (8:Int) ≤ 2 * (un (n / 2) : Nat) := by omega
          simp only [f7, f8, q1, q2, if_true, if_false] at f5
          have f9 : (4 * (n:Int)) / 64 = (4 * n / 64 : Nat) := (Int.natCast_ediv (4 * n) 64).symm ▸ rfl
          rw [← f5] at f9
          simp at f9
          clear f5 f7 f8
          go_wp2_with (first
            | (go_at_call 17; refine (specUnwoven_c _ _ _).mono ?_; rintro e w' ⟨rfl, rfl⟩)
            | (go_at_call 18; refine (implUnwoven_c _ _ _).mono ?_; rintro e w' ⟨rfl, rfl⟩)
            | (go_at_call 20; refine (implWoven_c _ _ _ _).mono ?_; rintro e w' ⟨rfl, rfl⟩)
            | (go_at_call 28; refine (alive_c _).mono ?_; rintro e w' ⟨rfl, rfl⟩))
          go_ret
          exact ⟨rfl, HB.out⟩
      · have c1 : unX 4 n = (un n : Nat) := f1
        have c2 : unY 4 n = (un (n / 2) : Nat) := f2
        have c3 : nuOk 4 n = true := f6
        have c4 : woI 4 ((un n : Nat) : Int) ((un (n / 2) : Nat) : Int) = n := f3
        clear f1 f2 f3 f6 hok
        have f5 := f4 (by omega) n hn
        clear f4
        simp only [Nat.reducePow, Nat.reduceMul] at f5 g1 g2
        by_cases q1 : (16:Int) ≤ 2 * (un n : Nat) <;> by_cases q2 : (16:Int) ≤ 2 * (un (n / 2) : Nat)
        all_goals
          have f7 : 16 ≤ 2 * un n ↔ (16:Int) ≤ 2 * (un n : Nat) := by omega
          have f8 : 16 ≤ 2 * un (n / 2) ↔ (16:Int) ≤ 2 * (un (n / 2) : Nat) := by omega
          simp only [f7, f8, q1, q2, if_true, if_false] at f5
          have f9 : (4 * (n:Int)) / 256 = (4 * n / 256 : Nat) := (Int.natCast_ediv (4 * n) 256).symm ▸ rfl
          rw [← f5] at f9
          simp at f9
          clear f5 f7 f8
          go_wp2_with (first
            | (go_at_call 17; refine (specUnwoven_c _ _ _).mono ?_; rintro e w' ⟨rfl, rfl⟩)
            | (go_at_call 18; refine (implUnwoven_c _ _ _).mono ?_; rintro e w' ⟨rfl, rfl⟩)
            | (go_at_call 20; refine (implWoven_c _ _ _ _).mono ?_; rintro e w' ⟨rfl, rfl⟩)
            | (go_at_call 28; refine (alive_c _).mono ?_; rintro e w' ⟨rfl, rfl⟩))
          go_ret
          exact ⟨rfl, HB.out⟩
      · have c1 : unX 5 n = (un n : Nat) := f1
        have c2 : unY 5 n = (un (n / 2) : Nat) := f2
        have c3 : nuOk 5 n = true := f6
        have c4 : woI 5 ((un n : Nat) : Int) ((un (n / 2) : Nat) : Int) = n := f3
        clear f1 f2 f3 f6 hok
        have f5 := f4 (by omega) n hn
        clear f4
        simp only [Nat.reducePow, Nat.reduceMul] at f5 g1 g2
        by_cases q1 : (32:Int) ≤ 2 * (un n : Nat) <;> by_cases q2 : (32:Int) ≤ 2 * (un (n / 2) : Nat)
        all_goals
          have f7 : 32 ≤ 2 * un n ↔ (32:Int) ≤ 2 * (un n : Nat) := by omega
          have f8 : 32 ≤ 2 * un (n / 2) ↔ (32:Int) ≤ 2 * (un (n / 2) : Nat) := by omega
          simp only [f7, f8, q1, q2, if_true, if_false] at f5
          have f9 : (4 * (n:Int)) / 1024 = (4 * n / 1024 : Nat) := (Int.natCast_ediv (4 * n) 1024).symm ▸ rfl
          rw [← f5] at f9
          simp at f9
          clear f5 f7 f8
          go_wp2_with (first
            | (go_at_call 17; refine (specUnwoven_c _ _ _).mono ?_; rintro e w' ⟨rfl, rfl⟩)
            | (go_at_call 18; refine (implUnwoven_c _ _ _).mono ?_; rintro e w' ⟨rfl, rfl⟩)
            | (go_at_call 20; refine (implWoven_c _ _ _ _).mono ?_; rintro e w' ⟨rfl, rfl⟩)
            | (go_at_call 28; refine (alive_c _).mono ?_; rintro e w' ⟨rfl, rfl⟩))
          go_ret
          exact ⟨rfl, HB.out⟩
end Go.Proofs.Ytbklcalpojkjfaa
