/- Contracts: impl.NumberOf. -/
import Derived.Test.YtbklcalpojkjfaaHil3
import Derived.WalkSmall
namespace Go.Proofs.Ytbklcalpojkjfaa
open Go.RowKit TW

theorem or_quad : ∀ X : Nat, X < 256 → ∀ e : Nat, e < 4 → bits .or .i64 ((X : Int) * 4) e = 4 * (X : Int) + e := by decide +kernel
theorem digitAt_q (t e n : Nat) (ht : t < 4) (he : e < 2) (hn : n < 2) (w : World) :
    Calls Try.prog 46 #[.int .i64 t, .int .i64 e, .int .i64 n] w fun r w' => r = .returned (.tuple #[.int .i64 (qD t e n : Nat), .int .i64 (qT t (qD t e n) : Nat)]) ∧ w' = w :=
  (digitAt_c t e n ht he hn w).mono fun _ _ h => ⟨h.1, h.2.symm⟩
theorem and1 : ∀ m : Nat, m < 32 → bits .and .i64 m 1 = (m % 2 : Nat) := by decide +kernel
set_option maxHeartbeats 4000000 in
theorem implNumber_0 (a b : Nat) (ha : a < 1) (hb : b < 1) (w : World) :
    Calls Try.prog 24 #[.int .i64 0, .int .i64 a, .int .i64 b] w fun e w' => e = .returned (.int .i64 (num 0 a b : Nat)) ∧ ∃ d, w.drewN d = w' := by
  have hmf : ∀ (fn : Fn) (first cap : Array Value) (w : World), (Instr.makeFunc fn first cap).run Try.prog w = .ok (.func fn first cap) w := fun _ _ _ _ => rfl
  have hv : ceOk 0 a b = true := ceOk_of (k := 0) (by omega) ha hb
  have HC := hid (nst_num 0 (by omega) a ha b hb)
  have HB := hid (nst_bd 0 a b)
  go_enter Try.func24, Try.ntmps24
  go_wp2_with (go_at_call 43; refine (cellOk_c _ _ _ _).mono ?_; rintro e w' ⟨rfl, rfl⟩)

  go_loopw [7, 8, 9] (fun x q l wr => ∃ j X T d : Nat, j ≤ 0 ∧ x = .int .i64 X ∧ q = .func (.func 46) #[.int .i64 T] #[] ∧ l = .int .i64 (-1 - (j : Int)) ∧ Hid (X = (nst 0 a b j).1 ∧ T = (nst 0 a b j).2) ∧ wr = w.drewN d) (fun _ _ l _ => (intOf l + 1).toNat)
  case atStart => exact ⟨0, 0, 0, 0, by omega, rfl, rfl, rfl, hid ⟨rfl, rfl⟩, rfl⟩
  case round =>
    obtain ⟨j, X, T, d, hj, rfl, rfl, rfl, HS, rfl⟩ := hrel
    have hb := HB.out j
    rw [← HS.out.1, ← HS.out.2] at hb
    obtain ⟨hX, hT⟩ := hb
    obtain rfl : j = 0 := by omega
    · have HE := hid (HS.out.1.trans HC.out)
      have z3 : ((-1 : Int) - ((0 : Nat) : Int)) = -1 := by omega
      rw [z3]
      clear HS HB HC z3
      go_wp2
      go_ret
      exact ⟨ret_int (by rw [HE.out]), d, rfl⟩
set_option maxHeartbeats 4000000 in
theorem implNumber_1 (a b : Nat) (ha : a < 2) (hb : b < 2) (w : World) :
    Calls Try.prog 24 #[.int .i64 1, .int .i64 a, .int .i64 b] w fun e w' => e = .returned (.int .i64 (num 1 a b : Nat)) ∧ ∃ d, w.drewN d = w' := by
  have hmf : ∀ (fn : Fn) (first cap : Array Value) (w : World), (Instr.makeFunc fn first cap).run Try.prog w = .ok (.func fn first cap) w := fun _ _ _ _ => rfl
  have hv : ceOk 1 a b = true := ceOk_of (k := 1) (by omega) ha hb
  have HC := hid (nst_num 1 (by omega) a ha b hb)
  have HB := hid (nst_bd 1 a b)
  go_enter Try.func24, Try.ntmps24
  go_wp2_with (go_at_call 43; refine (cellOk_c _ _ _ _).mono ?_; rintro e w' ⟨rfl, rfl⟩)

  go_loopw [7, 8, 9] (fun x q l wr => ∃ j X T d : Nat, j ≤ 1 ∧ x = .int .i64 X ∧ q = .func (.func 46) #[.int .i64 T] #[] ∧ l = .int .i64 (0 - (j : Int)) ∧ Hid (X = (nst 1 a b j).1 ∧ T = (nst 1 a b j).2) ∧ wr = w.drewN d) (fun _ _ l _ => (intOf l + 1).toNat)
  case atStart => exact ⟨0, 0, 0, 0, by omega, rfl, rfl, rfl, hid ⟨rfl, rfl⟩, rfl⟩
  case round =>
    obtain ⟨j, X, T, d, hj, rfl, rfl, rfl, HS, rfl⟩ := hrel
    have hb := HB.out j
    rw [← HS.out.1, ← HS.out.2] at hb
    obtain ⟨hX, hT⟩ := hb
    obtain rfl | rfl : j = 0 ∨ j = 1 := by omega
    · obtain ⟨p, hp⟩ : ∃ q, q = a / 2 ^ 0 % 2 := ⟨_, rfl⟩
      obtain ⟨q, hq⟩ : ∃ q, q = b / 2 ^ 0 % 2 := ⟨_, rfl⟩
      have hp4 : p < 2 := by rw [hp]; exact Nat.mod_lt _ (by decide)
      have hq4 : q < 2 := by rw [hq]; exact Nat.mod_lt _ (by decide)
      have hqb := qD_bd T hT _ hp4 _ hq4
      simp only [Nat.reducePow] at hX
      have ho1 := or_quad X (by omega) (qD T p q) hqb
      have hz1 : bits .and .i64 ((a : Int)) 1 = p := by
        have := and1 (a / 1) (by omega)
        rw [hp]; simpa using this
      have hz2 : bits .and .i64 ((b : Int)) 1 = q := by
        have := and1 (b / 1) (by omega)
        rw [hq]; simpa using this
      have hz3 : ((a : Int)) % 2 = p := by
        rw [hp]; simp
      have hz4 : ((b : Int)) % 2 = q := by
        rw [hq]; simp
      have HL := hid (fun w => digitAt_q T p q hT hp4 hq4 w)
      have HST := hid (show 4 * X + qD T p q = (nst 1 a b 1).1 ∧ qT T (qD T p q) = (nst 1 a b 1).2 by rw [HS.out.1, HS.out.2, hp, hq]; exact ⟨rfl, rfl⟩)
      generalize qT T (qD T p q) = U at *
      generalize qD T p q = E at *
      have z3 : ((0 : Int) - ((0 : Nat) : Int)) = 0 := by omega
      rw [z3]
      clear hp hq HS HB z3 HC
      go_wp2_with fail
      go_quiet (first | (go_at_call 46; refine (HL.out _).mono ?_; rintro e w2 ⟨rfl, rfl⟩; exact ⟨rfl, _, rfl⟩))
      go_wp2
      go_roundw
      case rel => exact ⟨1, _, _, _, by omega, by go_num, rfl, by go_num, HST, rfl⟩
      case measure => simp [intOf]
    · have HE := hid (HS.out.1.trans HC.out)
      have z3 : ((0 : Int) - ((1 : Nat) : Int)) = -1 := by omega
      rw [z3]
      clear HS HB HC z3
      go_wp2
      go_ret
      exact ⟨ret_int (by rw [HE.out]), d, rfl⟩
set_option maxHeartbeats 4000000 in
theorem implNumber_2 (a b : Nat) (ha : a < 4) (hb : b < 4) (w : World) :
    Calls Try.prog 24 #[.int .i64 2, .int .i64 a, .int .i64 b] w fun e w' => e = .returned (.int .i64 (num 2 a b : Nat)) ∧ ∃ d, w.drewN d = w' := by
  have hmf : ∀ (fn : Fn) (first cap : Array Value) (w : World), (Instr.makeFunc fn first cap).run Try.prog w = .ok (.func fn first cap) w := fun _ _ _ _ => rfl
  have hv : ceOk 2 a b = true := ceOk_of (k := 2) (by omega) ha hb
  have HC := hid (nst_num 2 (by omega) a ha b hb)
  have HB := hid (nst_bd 2 a b)
  go_enter Try.func24, Try.ntmps24
  go_wp2_with (go_at_call 43; refine (cellOk_c _ _ _ _).mono ?_; rintro e w' ⟨rfl, rfl⟩)

  go_loopw [7, 8, 9] (fun x q l wr => ∃ j X T d : Nat, j ≤ 2 ∧ x = .int .i64 X ∧ q = .func (.func 46) #[.int .i64 T] #[] ∧ l = .int .i64 (1 - (j : Int)) ∧ Hid (X = (nst 2 a b j).1 ∧ T = (nst 2 a b j).2) ∧ wr = w.drewN d) (fun _ _ l _ => (intOf l + 1).toNat)
  case atStart => exact ⟨0, 0, 0, 0, by omega, rfl, rfl, rfl, hid ⟨rfl, rfl⟩, rfl⟩
  case round =>
    obtain ⟨j, X, T, d, hj, rfl, rfl, rfl, HS, rfl⟩ := hrel
    have hb := HB.out j
    rw [← HS.out.1, ← HS.out.2] at hb
    obtain ⟨hX, hT⟩ := hb
    obtain rfl | rfl | rfl : j = 0 ∨ j = 1 ∨ j = 2 := by omega
    · obtain ⟨p, hp⟩ : ∃ q, q = a / 2 ^ 1 % 2 := ⟨_, rfl⟩
      obtain ⟨q, hq⟩ : ∃ q, q = b / 2 ^ 1 % 2 := ⟨_, rfl⟩
      have hp4 : p < 2 := by rw [hp]; exact Nat.mod_lt _ (by decide)
      have hq4 : q < 2 := by rw [hq]; exact Nat.mod_lt _ (by decide)
      have hqb := qD_bd T hT _ hp4 _ hq4
      simp only [Nat.reducePow] at hX
      have ho1 := or_quad X (by omega) (qD T p q) hqb
      have hz1 : bits .and .i64 ((a : Int) / 2) 1 = p := by
        have := and1 (a / 2) (by omega)
        rw [hp]; simpa using this
      have hz2 : bits .and .i64 ((b : Int) / 2) 1 = q := by
        have := and1 (b / 2) (by omega)
        rw [hq]; simpa using this
      have hz3 : ((a : Int) / 2) % 2 = p := by
        rw [hp]; simp
      have hz4 : ((b : Int) / 2) % 2 = q := by
        rw [hq]; simp
      have HL := hid (fun w => digitAt_q T p q hT hp4 hq4 w)
      have HST := hid (show 4 * X + qD T p q = (nst 2 a b 1).1 ∧ qT T (qD T p q) = (nst 2 a b 1).2 by rw [HS.out.1, HS.out.2, hp, hq]; exact ⟨rfl, rfl⟩)
      generalize qT T (qD T p q) = U at *
      generalize qD T p q = E at *
      have z3 : ((1 : Int) - ((0 : Nat) : Int)) = 1 := by omega
      rw [z3]
      clear hp hq HS HB z3 HC
      go_wp2_with fail
      go_quiet (first | (go_at_call 46; refine (HL.out _).mono ?_; rintro e w2 ⟨rfl, rfl⟩; exact ⟨rfl, _, rfl⟩))
      go_wp2
      go_roundw
      case rel => exact ⟨1, _, _, _, by omega, by go_num, rfl, by go_num, HST, rfl⟩
      case measure => simp [intOf]
    · obtain ⟨p, hp⟩ : ∃ q, q = a / 2 ^ 0 % 2 := ⟨_, rfl⟩
      obtain ⟨q, hq⟩ : ∃ q, q = b / 2 ^ 0 % 2 := ⟨_, rfl⟩
      have hp4 : p < 2 := by rw [hp]; exact Nat.mod_lt _ (by decide)
      have hq4 : q < 2 := by rw [hq]; exact Nat.mod_lt _ (by decide)
      have hqb := qD_bd T hT _ hp4 _ hq4
      simp only [Nat.reducePow] at hX
      have ho1 := or_quad X (by omega) (qD T p q) hqb
      have hz1 : bits .and .i64 ((a : Int)) 1 = p := by
        have := and1 (a / 1) (by omega)
        rw [hp]; simpa using this
      have hz2 : bits .and .i64 ((b : Int)) 1 = q := by
        have := and1 (b / 1) (by omega)
        rw [hq]; simpa using this
      have hz3 : ((a : Int)) % 2 = p := by
        rw [hp]; simp
      have hz4 : ((b : Int)) % 2 = q := by
        rw [hq]; simp
      have HL := hid (fun w => digitAt_q T p q hT hp4 hq4 w)
      have HST := hid (show 4 * X + qD T p q = (nst 2 a b 2).1 ∧ qT T (qD T p q) = (nst 2 a b 2).2 by rw [HS.out.1, HS.out.2, hp, hq]; exact ⟨rfl, rfl⟩)
      generalize qT T (qD T p q) = U at *
      generalize qD T p q = E at *
      have z3 : ((1 : Int) - ((1 : Nat) : Int)) = 0 := by omega
      rw [z3]
      clear hp hq HS HB z3 HC
      go_wp2_with fail
      go_quiet (first | (go_at_call 46; refine (HL.out _).mono ?_; rintro e w2 ⟨rfl, rfl⟩; exact ⟨rfl, _, rfl⟩))
      go_wp2
      go_roundw
      case rel => exact ⟨2, _, _, _, by omega, by go_num, rfl, by go_num, HST, rfl⟩
      case measure => simp [intOf]
    · have HE := hid (HS.out.1.trans HC.out)
      have z3 : ((1 : Int) - ((2 : Nat) : Int)) = -1 := by omega
      rw [z3]
      clear HS HB HC z3
      go_wp2
      go_ret
      exact ⟨ret_int (by rw [HE.out]), d, rfl⟩
set_option maxHeartbeats 4000000 in
theorem implNumber_3 (a b : Nat) (ha : a < 8) (hb : b < 8) (w : World) :
    Calls Try.prog 24 #[.int .i64 3, .int .i64 a, .int .i64 b] w fun e w' => e = .returned (.int .i64 (num 3 a b : Nat)) ∧ ∃ d, w.drewN d = w' := by
  have hmf : ∀ (fn : Fn) (first cap : Array Value) (w : World), (Instr.makeFunc fn first cap).run Try.prog w = .ok (.func fn first cap) w := fun _ _ _ _ => rfl
  have hv : ceOk 3 a b = true := ceOk_of (k := 3) (by omega) ha hb
  have HC := hid (nst_num 3 (by omega) a ha b hb)
  have HB := hid (nst_bd 3 a b)
  go_enter Try.func24, Try.ntmps24
  go_wp2_with (go_at_call 43; refine (cellOk_c _ _ _ _).mono ?_; rintro e w' ⟨rfl, rfl⟩)

  go_loopw [7, 8, 9] (fun x q l wr => ∃ j X T d : Nat, j ≤ 3 ∧ x = .int .i64 X ∧ q = .func (.func 46) #[.int .i64 T] #[] ∧ l = .int .i64 (2 - (j : Int)) ∧ Hid (X = (nst 3 a b j).1 ∧ T = (nst 3 a b j).2) ∧ wr = w.drewN d) (fun _ _ l _ => (intOf l + 1).toNat)
  case atStart => exact ⟨0, 0, 0, 0, by omega, rfl, rfl, rfl, hid ⟨rfl, rfl⟩, rfl⟩
  case round =>
    obtain ⟨j, X, T, d, hj, rfl, rfl, rfl, HS, rfl⟩ := hrel
    have hb := HB.out j
    rw [← HS.out.1, ← HS.out.2] at hb
    obtain ⟨hX, hT⟩ := hb
    obtain rfl | rfl | rfl | rfl : j = 0 ∨ j = 1 ∨ j = 2 ∨ j = 3 := by omega
    · obtain ⟨p, hp⟩ : ∃ q, q = a / 2 ^ 2 % 2 := ⟨_, rfl⟩
      obtain ⟨q, hq⟩ : ∃ q, q = b / 2 ^ 2 % 2 := ⟨_, rfl⟩
      have hp4 : p < 2 := by rw [hp]; exact Nat.mod_lt _ (by decide)
      have hq4 : q < 2 := by rw [hq]; exact Nat.mod_lt _ (by decide)
      have hqb := qD_bd T hT _ hp4 _ hq4
      simp only [Nat.reducePow] at hX
      have ho1 := or_quad X (by omega) (qD T p q) hqb
      have hz1 : bits .and .i64 ((a : Int) / 4) 1 = p := by
        have := and1 (a / 4) (by omega)
        rw [hp]; simpa using this
      have hz2 : bits .and .i64 ((b : Int) / 4) 1 = q := by
        have := and1 (b / 4) (by omega)
        rw [hq]; simpa using this
      have hz3 : ((a : Int) / 4) % 2 = p := by
        rw [hp]; simp
      have hz4 : ((b : Int) / 4) % 2 = q := by
        rw [hq]; simp
      have HL := hid (fun w => digitAt_q T p q hT hp4 hq4 w)
      have HST := hid (show 4 * X + qD T p q = (nst 3 a b 1).1 ∧ qT T (qD T p q) = (nst 3 a b 1).2 by rw [HS.out.1, HS.out.2, hp, hq]; exact ⟨rfl, rfl⟩)
      generalize qT T (qD T p q) = U at *
      generalize qD T p q = E at *
      have z3 : ((2 : Int) - ((0 : Nat) : Int)) = 2 := by omega
      rw [z3]
      clear hp hq HS HB z3 HC
      go_wp2_with fail
      go_quiet (first | (go_at_call 46; refine (HL.out _).mono ?_; rintro e w2 ⟨rfl, rfl⟩; exact ⟨rfl, _, rfl⟩))
      go_wp2
      go_roundw
      case rel => exact ⟨1, _, _, _, by omega, by go_num, rfl, by go_num, HST, rfl⟩
      case measure => simp [intOf]
    · obtain ⟨p, hp⟩ : ∃ q, q = a / 2 ^ 1 % 2 := ⟨_, rfl⟩
      obtain ⟨q, hq⟩ : ∃ q, q = b / 2 ^ 1 % 2 := ⟨_, rfl⟩
      have hp4 : p < 2 := by rw [hp]; exact Nat.mod_lt _ (by decide)
      have hq4 : q < 2 := by rw [hq]; exact Nat.mod_lt _ (by decide)
      have hqb := qD_bd T hT _ hp4 _ hq4
      simp only [Nat.reducePow] at hX
      have ho1 := or_quad X (by omega) (qD T p q) hqb
      have hz1 : bits .and .i64 ((a : Int) / 2) 1 = p := by
        have := and1 (a / 2) (by omega)
        rw [hp]; simpa using this
      have hz2 : bits .and .i64 ((b : Int) / 2) 1 = q := by
        have := and1 (b / 2) (by omega)
        rw [hq]; simpa using this
      have hz3 : ((a : Int) / 2) % 2 = p := by
        rw [hp]; simp
      have hz4 : ((b : Int) / 2) % 2 = q := by
        rw [hq]; simp
      have HL := hid (fun w => digitAt_q T p q hT hp4 hq4 w)
      have HST := hid (show 4 * X + qD T p q = (nst 3 a b 2).1 ∧ qT T (qD T p q) = (nst 3 a b 2).2 by rw [HS.out.1, HS.out.2, hp, hq]; exact ⟨rfl, rfl⟩)
      generalize qT T (qD T p q) = U at *
      generalize qD T p q = E at *
      have z3 : ((2 : Int) - ((1 : Nat) : Int)) = 1 := by omega
      rw [z3]
      clear hp hq HS HB z3 HC
      go_wp2_with fail
      go_quiet (first | (go_at_call 46; refine (HL.out _).mono ?_; rintro e w2 ⟨rfl, rfl⟩; exact ⟨rfl, _, rfl⟩))
      go_wp2
      go_roundw
      case rel => exact ⟨2, _, _, _, by omega, by go_num, rfl, by go_num, HST, rfl⟩
      case measure => simp [intOf]
    · obtain ⟨p, hp⟩ : ∃ q, q = a / 2 ^ 0 % 2 := ⟨_, rfl⟩
      obtain ⟨q, hq⟩ : ∃ q, q = b / 2 ^ 0 % 2 := ⟨_, rfl⟩
      have hp4 : p < 2 := by rw [hp]; exact Nat.mod_lt _ (by decide)
      have hq4 : q < 2 := by rw [hq]; exact Nat.mod_lt _ (by decide)
      have hqb := qD_bd T hT _ hp4 _ hq4
      simp only [Nat.reducePow] at hX
      have ho1 := or_quad X (by omega) (qD T p q) hqb
      have hz1 : bits .and .i64 ((a : Int)) 1 = p := by
        have := and1 (a / 1) (by omega)
        rw [hp]; simpa using this
      have hz2 : bits .and .i64 ((b : Int)) 1 = q := by
        have := and1 (b / 1) (by omega)
        rw [hq]; simpa using this
      have hz3 : ((a : Int)) % 2 = p := by
        rw [hp]; simp
      have hz4 : ((b : Int)) % 2 = q := by
        rw [hq]; simp
      have HL := hid (fun w => digitAt_q T p q hT hp4 hq4 w)
      have HST := hid (show 4 * X + qD T p q = (nst 3 a b 3).1 ∧ qT T (qD T p q) = (nst 3 a b 3).2 by rw [HS.out.1, HS.out.2, hp, hq]; exact ⟨rfl, rfl⟩)
      generalize qT T (qD T p q) = U at *
      generalize qD T p q = E at *
      have z3 : ((2 : Int) - ((2 : Nat) : Int)) = 0 := by omega
      rw [z3]
      clear hp hq HS HB z3 HC
      go_wp2_with fail
      go_quiet (first | (go_at_call 46; refine (HL.out _).mono ?_; rintro e w2 ⟨rfl, rfl⟩; exact ⟨rfl, _, rfl⟩))
      go_wp2
      go_roundw
      case rel => exact ⟨3, _, _, _, by omega, by go_num, rfl, by go_num, HST, rfl⟩
      case measure => simp [intOf]
    · have HE := hid (HS.out.1.trans HC.out)
      have z3 : ((2 : Int) - ((3 : Nat) : Int)) = -1 := by omega
      rw [z3]
      clear HS HB HC z3
      go_wp2
      go_ret
      exact ⟨ret_int (by rw [HE.out]), d, rfl⟩
set_option maxHeartbeats 4000000 in
theorem implNumber_4 (a b : Nat) (ha : a < 16) (hb : b < 16) (w : World) :
    Calls Try.prog 24 #[.int .i64 4, .int .i64 a, .int .i64 b] w fun e w' => e = .returned (.int .i64 (num 4 a b : Nat)) ∧ ∃ d, w.drewN d = w' := by
  have hmf : ∀ (fn : Fn) (first cap : Array Value) (w : World), (Instr.makeFunc fn first cap).run Try.prog w = .ok (.func fn first cap) w := fun _ _ _ _ => rfl
  have hv : ceOk 4 a b = true := ceOk_of (k := 4) (by omega) ha hb
  have HC := hid (nst_num 4 (by omega) a ha b hb)
  have HB := hid (nst_bd 4 a b)
  go_enter Try.func24, Try.ntmps24
  go_wp2_with (go_at_call 43; refine (cellOk_c _ _ _ _).mono ?_; rintro e w' ⟨rfl, rfl⟩)

  go_loopw [7, 8, 9] (fun x q l wr => ∃ j X T d : Nat, j ≤ 4 ∧ x = .int .i64 X ∧ q = .func (.func 46) #[.int .i64 T] #[] ∧ l = .int .i64 (3 - (j : Int)) ∧ Hid (X = (nst 4 a b j).1 ∧ T = (nst 4 a b j).2) ∧ wr = w.drewN d) (fun _ _ l _ => (intOf l + 1).toNat)
  case atStart => exact ⟨0, 0, 0, 0, by omega, rfl, rfl, rfl, hid ⟨rfl, rfl⟩, rfl⟩
  case round =>
    obtain ⟨j, X, T, d, hj, rfl, rfl, rfl, HS, rfl⟩ := hrel
    have hb := HB.out j
    rw [← HS.out.1, ← HS.out.2] at hb
    obtain ⟨hX, hT⟩ := hb
    obtain rfl | rfl | rfl | rfl | rfl : j = 0 ∨ j = 1 ∨ j = 2 ∨ j = 3 ∨ j = 4 := by omega
    · obtain ⟨p, hp⟩ : ∃ q, q = a / 2 ^ 3 % 2 := ⟨_, rfl⟩
      obtain ⟨q, hq⟩ : ∃ q, q = b / 2 ^ 3 % 2 := ⟨_, rfl⟩
      have hp4 : p < 2 := by rw [hp]; exact Nat.mod_lt _ (by decide)
      have hq4 : q < 2 := by rw [hq]; exact Nat.mod_lt _ (by decide)
      have hqb := qD_bd T hT _ hp4 _ hq4
      simp only [Nat.reducePow] at hX
      have ho1 := or_quad X (by omega) (qD T p q) hqb
      have hz1 : bits .and .i64 ((a : Int) / 8) 1 = p := by
        have := and1 (a / 8) (by omega)
        rw [hp]; simpa using this
      have hz2 : bits .and .i64 ((b : Int) / 8) 1 = q := by
        have := and1 (b / 8) (by omega)
        rw [hq]; simpa using this
      have hz3 : ((a : Int) / 8) % 2 = p := by
        rw [hp]; simp
      have hz4 : ((b : Int) / 8) % 2 = q := by
        rw [hq]; simp
      have HL := hid (fun w => digitAt_q T p q hT hp4 hq4 w)
      have HST := hid (show 4 * X + qD T p q = (nst 4 a b 1).1 ∧ qT T (qD T p q) = (nst 4 a b 1).2 by rw [HS.out.1, HS.out.2, hp, hq]; exact ⟨rfl, rfl⟩)
      generalize qT T (qD T p q) = U at *
      generalize qD T p q = E at *
      have z3 : ((3 : Int) - ((0 : Nat) : Int)) = 3 := by omega
      rw [z3]
      clear hp hq HS HB z3 HC
      go_wp2_with fail
      go_quiet (first | (go_at_call 46; refine (HL.out _).mono ?_; rintro e w2 ⟨rfl, rfl⟩; exact ⟨rfl, _, rfl⟩))
      go_wp2
      go_roundw
      case rel => exact ⟨1, _, _, _, by omega, by go_num, rfl, by go_num, HST, rfl⟩
      case measure => simp [intOf]
    · obtain ⟨p, hp⟩ : ∃ q, q = a / 2 ^ 2 % 2 := ⟨_, rfl⟩
      obtain ⟨q, hq⟩ : ∃ q, q = b / 2 ^ 2 % 2 := ⟨_, rfl⟩
      have hp4 : p < 2 := by rw [hp]; exact Nat.mod_lt _ (by decide)
      have hq4 : q < 2 := by rw [hq]; exact Nat.mod_lt _ (by decide)
      have hqb := qD_bd T hT _ hp4 _ hq4
      simp only [Nat.reducePow] at hX
      have ho1 := or_quad X (by omega) (qD T p q) hqb
      have hz1 : bits .and .i64 ((a : Int) / 4) 1 = p := by
        have := and1 (a / 4) (by omega)
        rw [hp]; simpa using this
      have hz2 : bits .and .i64 ((b : Int) / 4) 1 = q := by
        have := and1 (b / 4) (by omega)
        rw [hq]; simpa using this
      have hz3 : ((a : Int) / 4) % 2 = p := by
        rw [hp]; simp
      have hz4 : ((b : Int) / 4) % 2 = q := by
        rw [hq]; simp
      have HL := hid (fun w => digitAt_q T p q hT hp4 hq4 w)
      have HST := hid (show 4 * X + qD T p q = (nst 4 a b 2).1 ∧ qT T (qD T p q) = (nst 4 a b 2).2 by rw [HS.out.1, HS.out.2, hp, hq]; exact ⟨rfl, rfl⟩)
      generalize qT T (qD T p q) = U at *
      generalize qD T p q = E at *
      have z3 : ((3 : Int) - ((1 : Nat) : Int)) = 2 := by omega
      rw [z3]
      clear hp hq HS HB z3 HC
      go_wp2_with fail
      go_quiet (first | (go_at_call 46; refine (HL.out _).mono ?_; rintro e w2 ⟨rfl, rfl⟩; exact ⟨rfl, _, rfl⟩))
      go_wp2
      go_roundw
      case rel => exact ⟨2, _, _, _, by omega, by go_num, rfl, by go_num, HST, rfl⟩
      case measure => simp [intOf]
    · obtain ⟨p, hp⟩ : ∃ q, q = a / 2 ^ 1 % 2 := ⟨_, rfl⟩
      obtain ⟨q, hq⟩ : ∃ q, q = b / 2 ^ 1 % 2 := ⟨_, rfl⟩
      have hp4 : p < 2 := by rw [hp]; exact Nat.mod_lt _ (by decide)
      have hq4 : q < 2 := by rw [hq]; exact Nat.mod_lt _ (by decide)
      have hqb := qD_bd T hT _ hp4 _ hq4
      simp only [Nat.reducePow] at hX
      have ho1 := or_quad X (by omega) (qD T p q) hqb
      have hz1 : bits .and .i64 ((a : Int) / 2) 1 = p := by
        have := and1 (a / 2) (by omega)
        rw [hp]; simpa using this
      have hz2 : bits .and .i64 ((b : Int) / 2) 1 = q := by
        have := and1 (b / 2) (by omega)
        rw [hq]; simpa using this
      have hz3 : ((a : Int) / 2) % 2 = p := by
        rw [hp]; simp
      have hz4 : ((b : Int) / 2) % 2 = q := by
        rw [hq]; simp
      have HL := hid (fun w => digitAt_q T p q hT hp4 hq4 w)
      have HST := hid (show 4 * X + qD T p q = (nst 4 a b 3).1 ∧ qT T (qD T p q) = (nst 4 a b 3).2 by rw [HS.out.1, HS.out.2, hp, hq]; exact ⟨rfl, rfl⟩)
      generalize qT T (qD T p q) = U at *
      generalize qD T p q = E at *
      have z3 : ((3 : Int) - ((2 : Nat) : Int)) = 1 := by omega
      rw [z3]
      clear hp hq HS HB z3 HC
      go_wp2_with fail
      go_quiet (first | (go_at_call 46; refine (HL.out _).mono ?_; rintro e w2 ⟨rfl, rfl⟩; exact ⟨rfl, _, rfl⟩))
      go_wp2
      go_roundw
      case rel => exact ⟨3, _, _, _, by omega, by go_num, rfl, by go_num, HST, rfl⟩
      case measure => simp [intOf]
    · obtain ⟨p, hp⟩ : ∃ q, q = a / 2 ^ 0 % 2 := ⟨_, rfl⟩
      obtain ⟨q, hq⟩ : ∃ q, q = b / 2 ^ 0 % 2 := ⟨_, rfl⟩
      have hp4 : p < 2 := by rw [hp]; exact Nat.mod_lt _ (by decide)
      have hq4 : q < 2 := by rw [hq]; exact Nat.mod_lt _ (by decide)
      have hqb := qD_bd T hT _ hp4 _ hq4
      simp only [Nat.reducePow] at hX
      have ho1 := or_quad X (by omega) (qD T p q) hqb
      have hz1 : bits .and .i64 ((a : Int)) 1 = p := by
        have := and1 (a / 1) (by omega)
        rw [hp]; simpa using this
      have hz2 : bits .and .i64 ((b : Int)) 1 = q := by
        have := and1 (b / 1) (by omega)
        rw [hq]; simpa using this
      have hz3 : ((a : Int)) % 2 = p := by
        rw [hp]; simp
      have hz4 : ((b : Int)) % 2 = q := by
        rw [hq]; simp
      have HL := hid (fun w => digitAt_q T p q hT hp4 hq4 w)
      have HST := hid (show 4 * X + qD T p q = (nst 4 a b 4).1 ∧ qT T (qD T p q) = (nst 4 a b 4).2 by rw [HS.out.1, HS.out.2, hp, hq]; exact ⟨rfl, rfl⟩)
      generalize qT T (qD T p q) = U at *
      generalize qD T p q = E at *
      have z3 : ((3 : Int) - ((3 : Nat) : Int)) = 0 := by omega
      rw [z3]
      clear hp hq HS HB z3 HC
      go_wp2_with fail
      go_quiet (first | (go_at_call 46; refine (HL.out _).mono ?_; rintro e w2 ⟨rfl, rfl⟩; exact ⟨rfl, _, rfl⟩))
      go_wp2
      go_roundw
      case rel => exact ⟨4, _, _, _, by omega, by go_num, rfl, by go_num, HST, rfl⟩
      case measure => simp [intOf]
    · have HE := hid (HS.out.1.trans HC.out)
      have z3 : ((3 : Int) - ((4 : Nat) : Int)) = -1 := by omega
      rw [z3]
      clear HS HB HC z3
      go_wp2
      go_ret
      exact ⟨ret_int (by rw [HE.out]), d, rfl⟩
set_option maxHeartbeats 4000000 in
theorem implNumber_5 (a b : Nat) (ha : a < 32) (hb : b < 32) (w : World) :
    Calls Try.prog 24 #[.int .i64 5, .int .i64 a, .int .i64 b] w fun e w' => e = .returned (.int .i64 (num 5 a b : Nat)) ∧ ∃ d, w.drewN d = w' := by
  have hmf : ∀ (fn : Fn) (first cap : Array Value) (w : World), (Instr.makeFunc fn first cap).run Try.prog w = .ok (.func fn first cap) w := fun _ _ _ _ => rfl
  have hv : ceOk 5 a b = true := ceOk_of (k := 5) (by omega) ha hb
  have HC := hid (nst_num 5 (by omega) a ha b hb)
  have HB := hid (nst_bd 5 a b)
  go_enter Try.func24, Try.ntmps24
  go_wp2_with (go_at_call 43; refine (cellOk_c _ _ _ _).mono ?_; rintro e w' ⟨rfl, rfl⟩)

  go_loopw [7, 8, 9] (fun x q l wr => ∃ j X T d : Nat, j ≤ 5 ∧ x = .int .i64 X ∧ q = .func (.func 46) #[.int .i64 T] #[] ∧ l = .int .i64 (4 - (j : Int)) ∧ Hid (X = (nst 5 a b j).1 ∧ T = (nst 5 a b j).2) ∧ wr = w.drewN d) (fun _ _ l _ => (intOf l + 1).toNat)
  case atStart => exact ⟨0, 0, 0, 0, by omega, rfl, rfl, rfl, hid ⟨rfl, rfl⟩, rfl⟩
  case round =>
    obtain ⟨j, X, T, d, hj, rfl, rfl, rfl, HS, rfl⟩ := hrel
    have hb := HB.out j
    rw [← HS.out.1, ← HS.out.2] at hb
    obtain ⟨hX, hT⟩ := hb
    obtain rfl | rfl | rfl | rfl | rfl | rfl : j = 0 ∨ j = 1 ∨ j = 2 ∨ j = 3 ∨ j = 4 ∨ j = 5 := by omega
    · obtain ⟨p, hp⟩ : ∃ q, q = a / 2 ^ 4 % 2 := ⟨_, rfl⟩
      obtain ⟨q, hq⟩ : ∃ q, q = b / 2 ^ 4 % 2 := ⟨_, rfl⟩
      have hp4 : p < 2 := by rw [hp]; exact Nat.mod_lt _ (by decide)
      have hq4 : q < 2 := by rw [hq]; exact Nat.mod_lt _ (by decide)
      have hqb := qD_bd T hT _ hp4 _ hq4
      simp only [Nat.reducePow] at hX
      have ho1 := or_quad X (by omega) (qD T p q) hqb
      have hz1 : bits .and .i64 ((a : Int) / 16) 1 = p := by
        have := and1 (a / 16) (by omega)
        rw [hp]; simpa using this
      have hz2 : bits .and .i64 ((b : Int) / 16) 1 = q := by
        have := and1 (b / 16) (by omega)
        rw [hq]; simpa using this
      have hz3 : ((a : Int) / 16) % 2 = p := by
        rw [hp]; simp
      have hz4 : ((b : Int) / 16) % 2 = q := by
        rw [hq]; simp
      have HL := hid (fun w => digitAt_q T p q hT hp4 hq4 w)
      have HST := hid (show 4 * X + qD T p q = (nst 5 a b 1).1 ∧ qT T (qD T p q) = (nst 5 a b 1).2 by rw [HS.out.1, HS.out.2, hp, hq]; exact ⟨rfl, rfl⟩)
      generalize qT T (qD T p q) = U at *
      generalize qD T p q = E at *
      have z3 : ((4 : Int) - ((0 : Nat) : Int)) = 4 := by omega
      rw [z3]
      clear hp hq HS HB z3 HC
      go_wp2_with fail
      go_quiet (first | (go_at_call 46; refine (HL.out _).mono ?_; rintro e w2 ⟨rfl, rfl⟩; exact ⟨rfl, _, rfl⟩))
      go_wp2
      go_roundw
      case rel => exact ⟨1, _, _, _, by omega, by go_num, rfl, by go_num, HST, rfl⟩
      case measure => simp [intOf]
    · obtain ⟨p, hp⟩ : ∃ q, q = a / 2 ^ 3 % 2 := ⟨_, rfl⟩
      obtain ⟨q, hq⟩ : ∃ q, q = b / 2 ^ 3 % 2 := ⟨_, rfl⟩
      have hp4 : p < 2 := by rw [hp]; exact Nat.mod_lt _ (by decide)
      have hq4 : q < 2 := by rw [hq]; exact Nat.mod_lt _ (by decide)
      have hqb := qD_bd T hT _ hp4 _ hq4
      simp only [Nat.reducePow] at hX
      have ho1 := or_quad X (by omega) (qD T p q) hqb
      have hz1 : bits .and .i64 ((a : Int) / 8) 1 = p := by
        have := and1 (a / 8) (by omega)
        rw [hp]; simpa using this
      have hz2 : bits .and .i64 ((b : Int) / 8) 1 = q := by
        have := and1 (b / 8) (by omega)
        rw [hq]; simpa using this
      have hz3 : ((a : Int) / 8) % 2 = p := by
        rw [hp]; simp
      have hz4 : ((b : Int) / 8) % 2 = q := by
        rw [hq]; simp
      have HL := hid (fun w => digitAt_q T p q hT hp4 hq4 w)
      have HST := hid (show 4 * X + qD T p q = (nst 5 a b 2).1 ∧ qT T (qD T p q) = (nst 5 a b 2).2 by rw [HS.out.1, HS.out.2, hp, hq]; exact ⟨rfl, rfl⟩)
      generalize qT T (qD T p q) = U at *
      generalize qD T p q = E at *
      have z3 : ((4 : Int) - ((1 : Nat) : Int)) = 3 := by omega
      rw [z3]
      clear hp hq HS HB z3 HC
      go_wp2_with fail
      go_quiet (first | (go_at_call 46; refine (HL.out _).mono ?_; rintro e w2 ⟨rfl, rfl⟩; exact ⟨rfl, _, rfl⟩))
      go_wp2
      go_roundw
      case rel => exact ⟨2, _, _, _, by omega, by go_num, rfl, by go_num, HST, rfl⟩
      case measure => simp [intOf]
    · obtain ⟨p, hp⟩ : ∃ q, q = a / 2 ^ 2 % 2 := ⟨_, rfl⟩
      obtain ⟨q, hq⟩ : ∃ q, q = b / 2 ^ 2 % 2 := ⟨_, rfl⟩
      have hp4 : p < 2 := by rw [hp]; exact Nat.mod_lt _ (by decide)
      have hq4 : q < 2 := by rw [hq]; exact Nat.mod_lt _ (by decide)
      have hqb := qD_bd T hT _ hp4 _ hq4
      simp only [Nat.reducePow] at hX
      have ho1 := or_quad X (by omega) (qD T p q) hqb
      have hz1 : bits .and .i64 ((a : Int) / 4) 1 = p := by
        have := and1 (a / 4) (by omega)
        rw [hp]; simpa using this
      have hz2 : bits .and .i64 ((b : Int) / 4) 1 = q := by
        have := and1 (b / 4) (by omega)
        rw [hq]; simpa using this
      have hz3 : ((a : Int) / 4) % 2 = p := by
        rw [hp]; simp
      have hz4 : ((b : Int) / 4) % 2 = q := by
        rw [hq]; simp
      have HL := hid (fun w => digitAt_q T p q hT hp4 hq4 w)
      have HST := hid (show 4 * X + qD T p q = (nst 5 a b 3).1 ∧ qT T (qD T p q) = (nst 5 a b 3).2 by rw [HS.out.1, HS.out.2, hp, hq]; exact ⟨rfl, rfl⟩)
      generalize qT T (qD T p q) = U at *
      generalize qD T p q = E at *
      have z3 : ((4 : Int) - ((2 : Nat) : Int)) = 2 := by omega
      rw [z3]
      clear hp hq HS HB z3 HC
      go_wp2_with fail
      go_quiet (first | (go_at_call 46; refine (HL.out _).mono ?_; rintro e w2 ⟨rfl, rfl⟩; exact ⟨rfl, _, rfl⟩))
      go_wp2
      go_roundw
      case rel => exact ⟨3, _, _, _, by omega, by go_num, rfl, by go_num, HST, rfl⟩
      case measure => simp [intOf]
    · obtain ⟨p, hp⟩ : ∃ q, q = a / 2 ^ 1 % 2 := ⟨_, rfl⟩
      obtain ⟨q, hq⟩ : ∃ q, q = b / 2 ^ 1 % 2 := ⟨_, rfl⟩
      have hp4 : p < 2 := by rw [hp]; exact Nat.mod_lt _ (by decide)
      have hq4 : q < 2 := by rw [hq]; exact Nat.mod_lt _ (by decide)
      have hqb := qD_bd T hT _ hp4 _ hq4
      simp only [Nat.reducePow] at hX
      have ho1 := or_quad X (by omega) (qD T p q) hqb
      have hz1 : bits .and .i64 ((a : Int) / 2) 1 = p := by
        have := and1 (a / 2) (by omega)
        rw [hp]; simpa using this
      have hz2 : bits .and .i64 ((b : Int) / 2) 1 = q := by
        have := and1 (b / 2) (by omega)
        rw [hq]; simpa using this
      have hz3 : ((a : Int) / 2) % 2 = p := by
        rw [hp]; simp
      have hz4 : ((b : Int) / 2) % 2 = q := by
        rw [hq]; simp
      have HL := hid (fun w => digitAt_q T p q hT hp4 hq4 w)
      have HST := hid (show 4 * X + qD T p q = (nst 5 a b 4).1 ∧ qT T (qD T p q) = (nst 5 a b 4).2 by rw [HS.out.1, HS.out.2, hp, hq]; exact ⟨rfl, rfl⟩)
      generalize qT T (qD T p q) = U at *
      generalize qD T p q = E at *
      have z3 : ((4 : Int) - ((3 : Nat) : Int)) = 1 := by omega
      rw [z3]
      clear hp hq HS HB z3 HC
      go_wp2_with fail
      go_quiet (first | (go_at_call 46; refine (HL.out _).mono ?_; rintro e w2 ⟨rfl, rfl⟩; exact ⟨rfl, _, rfl⟩))
      go_wp2
      go_roundw
      case rel => exact ⟨4, _, _, _, by omega, by go_num, rfl, by go_num, HST, rfl⟩
      case measure => simp [intOf]
    · obtain ⟨p, hp⟩ : ∃ q, q = a / 2 ^ 0 % 2 := ⟨_, rfl⟩
      obtain ⟨q, hq⟩ : ∃ q, q = b / 2 ^ 0 % 2 := ⟨_, rfl⟩
      have hp4 : p < 2 := by rw [hp]; exact Nat.mod_lt _ (by decide)
      have hq4 : q < 2 := by rw [hq]; exact Nat.mod_lt _ (by decide)
      have hqb := qD_bd T hT _ hp4 _ hq4
      simp only [Nat.reducePow] at hX
      have ho1 := or_quad X (by omega) (qD T p q) hqb
      have hz1 : bits .and .i64 ((a : Int)) 1 = p := by
        have := and1 (a / 1) (by omega)
        rw [hp]; simpa using this
      have hz2 : bits .and .i64 ((b : Int)) 1 = q := by
        have := and1 (b / 1) (by omega)
        rw [hq]; simpa using this
      have hz3 : ((a : Int)) % 2 = p := by
        rw [hp]; simp
      have hz4 : ((b : Int)) % 2 = q := by
        rw [hq]; simp
      have HL := hid (fun w => digitAt_q T p q hT hp4 hq4 w)
      have HST := hid (show 4 * X + qD T p q = (nst 5 a b 5).1 ∧ qT T (qD T p q) = (nst 5 a b 5).2 by rw [HS.out.1, HS.out.2, hp, hq]; exact ⟨rfl, rfl⟩)
      generalize qT T (qD T p q) = U at *
      generalize qD T p q = E at *
      have z3 : ((4 : Int) - ((4 : Nat) : Int)) = 0 := by omega
      rw [z3]
      clear hp hq HS HB z3 HC
      go_wp2_with fail
      go_quiet (first | (go_at_call 46; refine (HL.out _).mono ?_; rintro e w2 ⟨rfl, rfl⟩; exact ⟨rfl, _, rfl⟩))
      go_wp2
      go_roundw
      case rel => exact ⟨5, _, _, _, by omega, by go_num, rfl, by go_num, HST, rfl⟩
      case measure => simp [intOf]
    · have HE := hid (HS.out.1.trans HC.out)
      have z3 : ((4 : Int) - ((5 : Nat) : Int)) = -1 := by omega
      rw [z3]
      clear HS HB HC z3
      go_wp2
      go_ret
      exact ⟨ret_int (by rw [HE.out]), d, rfl⟩
theorem implNumber_c (h x y : Int) (w : World) :
    Calls Try.prog 24 #[.int .i64 h, .int .i64 x, .int .i64 y] w fun e w' => e = .returned (.int .i64 (hN h x y)) ∧ ∃ d, w.drewN d = w' := by
  cases hc : ceOk h x y with
  | false =>
    have hr := hid (hN_no hc)
    go_enter Try.func24, Try.ntmps24
    go_wp2_with (go_at_call 43; refine (cellOk_c _ _ _ _).mono ?_; rintro e w' ⟨rfl, rfl⟩)
    go_ret
    exact ⟨ret_int hr.out.symm, 0, rfl⟩
  | true =>
    obtain ⟨k, a, b, rfl, rfl, rfl, hk, ha, hb⟩ := ceOk_nat hc
    rw [hN_of hk ha hb]
    clear hc
    obtain rfl | rfl | rfl | rfl | rfl | rfl : k = 0 ∨ k = 1 ∨ k = 2 ∨ k = 3 ∨ k = 4 ∨ k = 5 := by omega
    · exact implNumber_0 a b ha hb w
    · exact implNumber_1 a b ha hb w
    · exact implNumber_2 a b ha hb w
    · exact implNumber_3 a b ha hb w
    · exact implNumber_4 a b ha hb w
    · exact implNumber_5 a b ha hb w
end Go.Proofs.Ytbklcalpojkjfaa
