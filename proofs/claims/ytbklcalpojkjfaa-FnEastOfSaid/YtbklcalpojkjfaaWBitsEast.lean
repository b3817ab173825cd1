/- The walk of FnEastOf. -/
import Derived.Test.YtbklcalpojkjfaaBits3
import Derived.Test.YtbklcalpojkjfaaDrawH
import Derived.Test.YtbklcalpojkjfaaAlive
import Derived.LoopN
namespace Go.Proofs.Ytbklcalpojkjfaa
open Go.RowKit TW

theorem east_law : ∀ a : Nat, a < 1024 → un a + 1 < 32 → 0 ≤ bits .or .i64 a 682 ∧ bits .or .i64 a 682 < 2000 ∧ bits .or .i64 (bits .andNot .i64 (bits .or .i64 a 682 + 1) 682) (bits .and .i64 a 682) = (wv (un a + 1) (un (a / 2)) : Nat) := by decide +kernel

set_option maxHeartbeats 2000000 in
theorem walk_FnEastOf (a : Option Addr) (len cap : Nat) (zs : List Int) (w : World) (h : IsRow .u8 w a len cap zs) :
    Calls Try.prog 12 #[.slice a len cap] w fun e w' => e = .returned (.bool true) ∧ Below w.heap.size w w' := by
  by_cases hbig : 1048576 < len
  · go_enter Try.func12, Try.ntmps12
    go_wp2
    go_ret
    exact ⟨rfl, Below.refl _ _⟩
  · go_enter Try.func12, Try.ntmps12
    go_wp2_with fail
    refine (drawEastOf_c _ _ _ _ _ h).mono ?_
    rintro e w1 ⟨o, r, rfl, _, _, _, _, hb⟩
    have HB := hid hb
    clear hb h
    cases hok : eaOk o r with
    | false =>
      have e1 : eaI o r = -1 := by unfold eaI; rw [hok]; rfl
      go_wp2_with (first
        | (go_at_call 21; refine (specEast_c _ _ _).mono ?_; rintro e w' ⟨rfl, d, rfl⟩)
        | (go_at_call 22; refine (implEast_c _ _ _).mono ?_; rintro e w' ⟨rfl, rfl⟩)
        | (go_at_call 28; refine (alive_c _).mono ?_; rintro e w' ⟨rfl, rfl⟩))
      go_ret
      exact ⟨rfl, below_drewN HB.out _⟩
    | true =>
      have hok2 := hok
      unfold eaOk at hok2
      rw [Bool.and_eq_true, decide_eq_true_eq] at hok2
      obtain ⟨hnu, hlt⟩ := hok2
      obtain ⟨k, n, rfl, rfl, hk, hn⟩ := nuOk_nat hnu
      have f0 := unTo_eq k hk n hn
      have f1 := unX_of hk hn
      have f2 := unY_of hk hn
      rw [f1] at hlt
      have h1024 : n < 1024 := by
        have h5 := (pow_le32 k hk).2.2.2
        have h6 : 4 ^ k ≤ 1024 := by rw [← h5.2.2]; have := h5.1; rw [← cast_pow] at this; omega
        omega
      have hX : un n + 1 < 2 ^ k := lt_pow (x := un n + 1) (h := k) hlt
      have h32 := (pow_le32 k hk).2.1
      have f3 : eaI k n = ((wv (un n + 1) (un (n / 2)) : Nat) : Int) := by unfold eaI; rw [hok]; rfl
      have hm := wv_small k hk _ hX _ f0.2.2.2
      have f4 := nuOk_of hk hm
      have f5 := unX_of hk hm
      have f6 := unY_of hk hm
      have hun := un_wv (un n + 1) (by omega) (un (n / 2)) (by omega)
      rw [hun.1] at f5
      rw [hun.2] at f6
      have hu32 : un n + 1 < 32 := by omega
      clear hlt f0 h32 hm hX hun hk hn
      go_wp2_with (first
        | (go_at_call 21; refine (specEast_c _ _ _).mono ?_; rintro e w' ⟨rfl, d, rfl⟩)
        | (go_at_call 22; refine (implEast_c _ _ _).mono ?_; rintro e w' ⟨rfl, rfl⟩)
        | (go_at_call 18; refine (implUnwoven_c _ _ _).mono ?_; rintro e w' ⟨rfl, rfl⟩)
        | (go_at_call 28; refine (alive_c _).mono ?_; rintro e w' ⟨rfl, rfl⟩))
      obtain ⟨he1, he2, he3⟩ := east_law n h1024 hu32
      have b1 : bits .or .i64 0 2 = 2 := by decide +kernel
      have b2 : bits .or .i64 2 8 = 10 := by decide +kernel
      have b3 : bits .or .i64 10 32 = 42 := by decide +kernel
      have b4 : bits .or .i64 42 128 = 170 := by decide +kernel
      have b5 : bits .or .i64 170 512 = 682 := by decide +kernel
      refine wp_loop_rounds 6 ?_
      rw [rounds_succ]; go_wp2
      rw [rounds_succ]; go_wp2
      rw [rounds_succ]; go_wp2
      rw [rounds_succ]; go_wp2
      rw [rounds_succ]; go_wp2
      rw [rounds_succ]; go_wp2
      go_ret
      exact ⟨rfl, below_drewN HB.out _⟩
end Go.Proofs.Ytbklcalpojkjfaa
