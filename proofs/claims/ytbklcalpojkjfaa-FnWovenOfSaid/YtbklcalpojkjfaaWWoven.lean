/- The walk of FnWovenOf. -/
import Derived.Test.YtbklcalpojkjfaaBits3
import Derived.Test.YtbklcalpojkjfaaDrawH
import Derived.Test.YtbklcalpojkjfaaAlive
namespace Go.Proofs.Ytbklcalpojkjfaa
open Go.RowKit TW

theorem wv_swap : ∀ a : Nat, a < 32 → ∀ b : Nat, b < 32 → ∀ j : Nat, j < 5 → wv a b / 4 ^ j % 2 = wv b a / (2 * 4 ^ j) % 2 ∧ wv a b / (2 * 4 ^ j) % 2 = wv b a / 4 ^ j % 2 := by decide +kernel
theorem woI_no {h x y : Int} (e : ceOk h x y = false) : woI h x y = -1 := by unfold woI; rw [e]; rfl

set_option maxRecDepth 100000 in
set_option maxHeartbeats 4000000 in
theorem walk_FnWovenOf (a : Option Addr) (len cap : Nat) (zs : List Int) (w : World) (h : IsRow .u8 w a len cap zs) :
    Calls Try.prog 9 #[.slice a len cap] w fun e w' => e = .returned (.bool true) ∧ Below w.heap.size w w' := by
  by_cases hbig : 1048576 < len
  · go_enter Try.func9, Try.ntmps9
    go_wp2
    go_ret
    exact ⟨rfl, Below.refl _ _⟩
  · go_enter Try.func9, Try.ntmps9
    go_wp2_with fail
    refine (drawWovenOf_c _ _ _ _ _ h).mono ?_
    rintro e w1 ⟨o, x, y, rfl, _, _, _, hb⟩
    have HB := hid hb
    clear hb h
    cases hok : ceOk o x y with
    | false =>
      have e1 := woI_no hok
      go_wp2_with (first
        | (go_at_call 19; refine (specWoven_c _ _ _ _).mono ?_; rintro e w' ⟨rfl, d, rfl⟩)
        | (go_at_call 20; refine (implWoven_c _ _ _ _).mono ?_; rintro e w' ⟨rfl, rfl⟩)
        | (go_at_call 28; refine (alive_c _).mono ?_; rintro e w' ⟨rfl, rfl⟩))
      go_ret
      exact ⟨rfl, below_drewN HB.out _⟩
    | true =>
      obtain ⟨k, x, y, rfl, rfl, rfl, hk, hx, hy⟩ := ceOk_nat hok
      have f1 := woI_of hk hx hy
      have f2 := woI_of hk hy hx
      have hp := pow_le32 k hk
      have hx32 : x < 32 := by omega
      have hy32 : y < 32 := by omega
      have f3 := wv_small k hk x hx y hy
      have f4 := un_wv x hx32 y hy32
      have f5 := unX_of hk f3
      have f6 := unY_of hk f3
      have f7 := nuOk_of hk f3
      rw [f4.1] at f5
      rw [f4.2] at f6
      have hN := wv_lt x hx32 y hy32
      have hM := wv_lt y hy32 x hx32
      have HS := hid (wv_swap x hx32 y hy32)
      clear f3 f4 hx hy hp hx32 hy32 hok
      generalize wv x y = N at *
      generalize wv y x = M at *
      go_wp2_with (first
        | (go_at_call 19; refine (specWoven_c _ _ _ _).mono ?_; rintro e w' ⟨rfl, d, rfl⟩)
        | (go_at_call 20; refine (implWoven_c _ _ _ _).mono ?_; rintro e w' ⟨rfl, rfl⟩)
        | (go_at_call 18; refine (implUnwoven_c _ _ _).mono ?_; rintro e w' ⟨rfl, rfl⟩))
      have HB := hid (below_drewN HB.out d)
      have hk5 : k ≤ 5 := by omega
      go_loopw [11] (fun i wr => ∃ j : Nat, j ≤ k ∧ i = .int .i64 j ∧ Below w.heap.size w wr) (fun i _ => 6 - (intOf i).toNat)
      case atStart => exact ⟨0, by omega, rfl, HB.out⟩
      case round =>
        obtain ⟨j, hj, rfl, hbr⟩ := hrel
        have HB := hid hbr
        clear hbr
        by_cases hlt : j < k
        · have hS := HS.out j (by omega)
          obtain rfl | rfl | rfl | rfl | rfl : j = 0 ∨ j = 1 ∨ j = 2 ∨ j = 3 ∨ j = 4 := by omega
          · simp only [Nat.reducePow, Nat.reduceMul, Nat.div_one] at hS
            have q1 : (N : Int).tmod 2 = ((M : Int) / 2).tmod 2 := by rw [Int.tmod_eq_emod_of_nonneg (by omega), Int.tmod_eq_emod_of_nonneg (by omega)]; omega
            have q2 : ((N : Int) / 2).tmod 2 = (M : Int).tmod 2 := by rw [Int.tmod_eq_emod_of_nonneg (by omega), Int.tmod_eq_emod_of_nonneg (by omega)]; omega
            clear hS
            go_wp2_with fail
            go_quiet (fail)
            clear q1 q2
            go_wp2_with fail
            go_roundw
            case rel => exact ⟨1, by omega, rfl, below_drewN HB.out _⟩
            case measure => simp [intOf]
          · simp only [Nat.reducePow, Nat.reduceMul] at hS
            have q1 : ((N : Int) / 4).tmod 2 = ((M : Int) / 8).tmod 2 := by rw [Int.tmod_eq_emod_of_nonneg (by omega), Int.tmod_eq_emod_of_nonneg (by omega)]; omega
            have q2 : ((N : Int) / 8).tmod 2 = ((M : Int) / 4).tmod 2 := by rw [Int.tmod_eq_emod_of_nonneg (by omega), Int.tmod_eq_emod_of_nonneg (by omega)]; omega
            clear hS
            go_wp2_with fail
            go_quiet (fail)
            clear q1 q2
            go_wp2_with fail
            go_roundw
            case rel => exact ⟨2, by omega, rfl, below_drewN HB.out _⟩
            case measure => simp [intOf]
          · simp only [Nat.reducePow, Nat.reduceMul] at hS
            have q1 : ((N : Int) / 16).tmod 2 = ((M : Int) / 32).tmod 2 := by rw [Int.tmod_eq_emod_of_nonneg (by omega), Int.tmod_eq_emod_of_nonneg (by omega)]; omega
            have q2 : ((N : Int) / 32).tmod 2 = ((M : Int) / 16).tmod 2 := by rw [Int.tmod_eq_emod_of_nonneg (by omega), Int.tmod_eq_emod_of_nonneg (by omega)]; omega
            clear hS
            go_wp2_with fail
            go_quiet (fail)
            clear q1 q2
            go_wp2_with fail
            go_roundw
            case rel => exact ⟨3, by omega, rfl, below_drewN HB.out _⟩
            case measure => simp [intOf]
          · simp only [Nat.reducePow, Nat.reduceMul] at hS
            have q1 : ((N : Int) / 64).tmod 2 = ((M : Int) / 128).tmod 2 := by rw [Int.tmod_eq_emod_of_nonneg (by omega), Int.tmod_eq_emod_of_nonneg (by omega)]; omega
            have q2 : ((N : Int) / 128).tmod 2 = ((M : Int) / 64).tmod 2 := by rw [Int.tmod_eq_emod_of_nonneg (by omega), Int.tmod_eq_emod_of_nonneg (by omega)]; omega
            clear hS
            go_wp2_with fail
            go_quiet (fail)
            clear q1 q2
            go_wp2_with fail
            go_roundw
            case rel => exact ⟨4, by omega, rfl, below_drewN HB.out _⟩
            case measure => simp [intOf]
          · simp only [Nat.reducePow, Nat.reduceMul] at hS
            have q1 : ((N : Int) / 256).tmod 2 = ((M : Int) / 512).tmod 2 := by rw [Int.tmod_eq_emod_of_nonneg (by omega), Int.tmod_eq_emod_of_nonneg (by omega)]; omega
            have q2 : ((N : Int) / 512).tmod 2 = ((M : Int) / 256).tmod 2 := by rw [Int.tmod_eq_emod_of_nonneg (by omega), Int.tmod_eq_emod_of_nonneg (by omega)]; omega
            clear hS
            go_wp2_with fail
            go_quiet (fail)
            clear q1 q2
            go_wp2_with fail
            go_roundw
            case rel => exact ⟨5, by omega, rfl, below_drewN HB.out _⟩
            case measure => simp [intOf]
        · obtain rfl : j = k := by omega
          go_wp2_with (go_at_call 28; refine (alive_c _).mono ?_; rintro e w' ⟨rfl, rfl⟩)
          go_ret
          exact ⟨rfl, HB.out⟩
end Go.Proofs.Ytbklcalpojkjfaa
