/- Contracts: impl.CellOf. -/
import Derived.Test.YtbklcalpojkjfaaHil3
namespace Go.Proofs.Ytbklcalpojkjfaa
open Go.RowKit TW

theorem or_bit : ∀ l : Nat, l < 5 → ∀ X : Nat, X < 16 → ∀ e : Nat, e < 2 → bits .or .i64 (X * 2 ^ (l + 1) : Nat) (e * 2 ^ l : Nat) = ((2 * X + e) * 2 ^ l : Nat) := by decide +kernel

theorem and3 : ∀ m : Nat, m < 1024 → bits .and .i64 m 3 = (m % 4 : Nat) := by decide +kernel
set_option maxHeartbeats 4000000 in
theorem implCell_0 (a : Nat) (ha : a < 1) (w : World) :
    Calls Try.prog 26 #[.int .i64 0, .int .i64 a] w fun e w' => e = .returned (.tuple #[.int .i64 ((hil 0 a).1 : Nat), .int .i64 ((hil 0 a).2 : Nat), .bool true]) ∧ w = w' := by
  have hmf : ∀ (fn : Fn) (first cap : Array Value) (w : World), (Instr.makeFunc fn first cap).run Try.prog w = .ok (.func fn first cap) w := fun _ _ _ _ => rfl
  have hv : hvOk 0 = true := by decide
  have HC := hid (cst_hil 0 (by omega) a ha)
  have HB := hid (cst_bd 0 a)
  go_enter Try.func26, Try.ntmps26
  go_wp2_with (go_at_call 40; refine (halvesOk_c _ _).mono ?_; rintro e w' ⟨rfl, rfl⟩)
  go_loop [7, 8, 9, 10] (fun x y q l => ∃ j X Y T : Nat, j ≤ 0 ∧ x = .int .i64 (X * 2 ^ (0 - j) : Nat) ∧ y = .int .i64 (Y * 2 ^ (0 - j) : Nat) ∧ q = .func (.func 48) #[.int .i64 T] #[] ∧ l = .int .i64 (-1 - (j : Int)) ∧ Hid (X = (cst 0 a j).1 ∧ Y = (cst 0 a j).2.1 ∧ T = (cst 0 a j).2.2)) (fun _ _ _ l => (intOf l + 1).toNat)
  case atStart => exact ⟨0, 0, 0, 0, by omega, rfl, rfl, rfl, rfl, hid ⟨rfl, rfl, rfl⟩⟩
  case round =>
    obtain ⟨j, X, Y, T, hj, rfl, rfl, rfl, rfl, HS⟩ := hrel
    have hb := HB.out j
    rw [← HS.out.1, ← HS.out.2.1, ← HS.out.2.2] at hb
    obtain ⟨hX, hY, hT⟩ := hb
    obtain rfl : j = 0 := by omega
    · have HE := hid (And.intro (HS.out.1.trans HC.out.1) (HS.out.2.1.trans HC.out.2))
      have z1 : ((X * 2 ^ (0 - 0) : Nat) : Int) = X := by simp
      have z2 : ((Y * 2 ^ (0 - 0) : Nat) : Int) = Y := by simp
      have z3 : ((-1 : Int) - ((0 : Nat) : Int)) = -1 := by omega
      rw [z1, z2, z3]
      clear HS HB HC z1 z2 z3
      go_wp2
      go_ret3
      exact ⟨ret_iib (by rw [HE.out.1]) (by rw [HE.out.2]) rfl, rfl⟩
set_option maxHeartbeats 4000000 in
theorem implCell_1 (a : Nat) (ha : a < 4) (w : World) :
    Calls Try.prog 26 #[.int .i64 1, .int .i64 a] w fun e w' => e = .returned (.tuple #[.int .i64 ((hil 1 a).1 : Nat), .int .i64 ((hil 1 a).2 : Nat), .bool true]) ∧ w = w' := by
  have hmf : ∀ (fn : Fn) (first cap : Array Value) (w : World), (Instr.makeFunc fn first cap).run Try.prog w = .ok (.func fn first cap) w := fun _ _ _ _ => rfl
  have hv : hvOk 1 = true := by decide
  have HC := hid (cst_hil 1 (by omega) a ha)
  have HB := hid (cst_bd 1 a)
  go_enter Try.func26, Try.ntmps26
  go_wp2_with (go_at_call 40; refine (halvesOk_c _ _).mono ?_; rintro e w' ⟨rfl, rfl⟩)
  go_loop [7, 8, 9, 10] (fun x y q l => ∃ j X Y T : Nat, j ≤ 1 ∧ x = .int .i64 (X * 2 ^ (1 - j) : Nat) ∧ y = .int .i64 (Y * 2 ^ (1 - j) : Nat) ∧ q = .func (.func 48) #[.int .i64 T] #[] ∧ l = .int .i64 (0 - (j : Int)) ∧ Hid (X = (cst 1 a j).1 ∧ Y = (cst 1 a j).2.1 ∧ T = (cst 1 a j).2.2)) (fun _ _ _ l => (intOf l + 1).toNat)
  case atStart => exact ⟨0, 0, 0, 0, by omega, rfl, rfl, rfl, rfl, hid ⟨rfl, rfl, rfl⟩⟩
  case round =>
    obtain ⟨j, X, Y, T, hj, rfl, rfl, rfl, rfl, HS⟩ := hrel
    have hb := HB.out j
    rw [← HS.out.1, ← HS.out.2.1, ← HS.out.2.2] at hb
    obtain ⟨hX, hY, hT⟩ := hb
    obtain rfl | rfl : j = 0 ∨ j = 1 := by omega
    · obtain ⟨q, hq⟩ : ∃ q, q = a / 4 ^ 0 % 4 := ⟨_, rfl⟩
      have hq4 : q < 4 := by rw [hq]; exact Nat.mod_lt _ (by decide)
      have hqb := q_bd T hT _ hq4
      have ho1 := or_bit 0 (by omega) X (by simp only [Nat.reducePow] at hX; omega) (qE T q) hqb.1
      have ho2 := or_bit 0 (by omega) Y (by simp only [Nat.reducePow] at hY; omega) (qN T q) hqb.2.1
      have hz : bits .and .i64 ((a : Int)) 3 = q := by
        have := and3 (a / 1) (by omega)
        rw [hq]; simpa using this
      have HL := hid (fun w => quarterAt_c T q hT hq4 w)
      have HST := hid (show 2 * X + qE T q = (cst 1 a 1).1 ∧ 2 * Y + qN T q = (cst 1 a 1).2.1 ∧ qT T q = (cst 1 a 1).2.2 by rw [HS.out.1, HS.out.2.1, HS.out.2.2, hq]; exact ⟨rfl, rfl, rfl⟩)
      generalize qE T q = E at *
      generalize qN T q = N at *
      generalize qT T q = U at *
      have o1 : bits .or .i64 ((X : Int) * 2) ((E : Int)) = 2 * (X : Int) + E := by simpa using ho1
      have o2 : bits .or .i64 ((Y : Int) * 2) ((N : Int)) = 2 * (Y : Int) + N := by simpa using ho2
      obtain ⟨hE, hN, hU⟩ := hqb
      have z1 : ((X * 2 ^ (1 - 0) : Nat) : Int) = (X : Int) * 2 := by simp
      have z2 : ((Y * 2 ^ (1 - 0) : Nat) : Int) = (Y : Int) * 2 := by simp
      have z3 : ((0 : Int) - ((0 : Nat) : Int)) = 0 := by omega
      rw [z1, z2, z3]
      simp only [Nat.reducePow] at hX hY
      clear ho1 ho2 hq HS HB z1 z2 z3 hq4
      go_wp2_with (go_at_call 48; refine (HL.out _).mono ?_; rintro e w' ⟨rfl, rfl⟩)
      go_round
      case rel => exact ⟨1, _, _, _, by omega, by go_num, by go_num, rfl, by go_num, HST⟩
      case measure => simp [intOf]
    · have HE := hid (And.intro (HS.out.1.trans HC.out.1) (HS.out.2.1.trans HC.out.2))
      have z1 : ((X * 2 ^ (1 - 1) : Nat) : Int) = X := by simp
      have z2 : ((Y * 2 ^ (1 - 1) : Nat) : Int) = Y := by simp
      have z3 : ((0 : Int) - ((1 : Nat) : Int)) = -1 := by omega
      rw [z1, z2, z3]
      clear HS HB HC z1 z2 z3
      go_wp2
      go_ret3
      exact ⟨ret_iib (by rw [HE.out.1]) (by rw [HE.out.2]) rfl, rfl⟩
set_option maxHeartbeats 4000000 in
theorem implCell_2 (a : Nat) (ha : a < 16) (w : World) :
    Calls Try.prog 26 #[.int .i64 2, .int .i64 a] w fun e w' => e = .returned (.tuple #[.int .i64 ((hil 2 a).1 : Nat), .int .i64 ((hil 2 a).2 : Nat), .bool true]) ∧ w = w' := by
  have hmf : ∀ (fn : Fn) (first cap : Array Value) (w : World), (Instr.makeFunc fn first cap).run Try.prog w = .ok (.func fn first cap) w := fun _ _ _ _ => rfl
  have hv : hvOk 2 = true := by decide
  have HC := hid (cst_hil 2 (by omega) a ha)
  have HB := hid (cst_bd 2 a)
  go_enter Try.func26, Try.ntmps26
  go_wp2_with (go_at_call 40; refine (halvesOk_c _ _).mono ?_; rintro e w' ⟨rfl, rfl⟩)
  go_loop [7, 8, 9, 10] (fun x y q l => ∃ j X Y T : Nat, j ≤ 2 ∧ x = .int .i64 (X * 2 ^ (2 - j) : Nat) ∧ y = .int .i64 (Y * 2 ^ (2 - j) : Nat) ∧ q = .func (.func 48) #[.int .i64 T] #[] ∧ l = .int .i64 (1 - (j : Int)) ∧ Hid (X = (cst 2 a j).1 ∧ Y = (cst 2 a j).2.1 ∧ T = (cst 2 a j).2.2)) (fun _ _ _ l => (intOf l + 1).toNat)
  case atStart => exact ⟨0, 0, 0, 0, by omega, rfl, rfl, rfl, rfl, hid ⟨rfl, rfl, rfl⟩⟩
  case round =>
    obtain ⟨j, X, Y, T, hj, rfl, rfl, rfl, rfl, HS⟩ := hrel
    have hb := HB.out j
    rw [← HS.out.1, ← HS.out.2.1, ← HS.out.2.2] at hb
    obtain ⟨hX, hY, hT⟩ := hb
    obtain rfl | rfl | rfl : j = 0 ∨ j = 1 ∨ j = 2 := by omega
    · obtain ⟨q, hq⟩ : ∃ q, q = a / 4 ^ 1 % 4 := ⟨_, rfl⟩
      have hq4 : q < 4 := by rw [hq]; exact Nat.mod_lt _ (by decide)
      have hqb := q_bd T hT _ hq4
      have ho1 := or_bit 1 (by omega) X (by simp only [Nat.reducePow] at hX; omega) (qE T q) hqb.1
      have ho2 := or_bit 1 (by omega) Y (by simp only [Nat.reducePow] at hY; omega) (qN T q) hqb.2.1
      have hz : bits .and .i64 ((a : Int) / 4) 3 = q := by
        have := and3 (a / 4) (by omega)
        rw [hq]; simpa using this
      have HL := hid (fun w => quarterAt_c T q hT hq4 w)
      have HST := hid (show 2 * X + qE T q = (cst 2 a 1).1 ∧ 2 * Y + qN T q = (cst 2 a 1).2.1 ∧ qT T q = (cst 2 a 1).2.2 by rw [HS.out.1, HS.out.2.1, HS.out.2.2, hq]; exact ⟨rfl, rfl, rfl⟩)
      generalize qE T q = E at *
      generalize qN T q = N at *
      generalize qT T q = U at *
      have o1 : bits .or .i64 ((X : Int) * 4) ((E : Int) * 2) = (2 * (X : Int) + E) * 2 := by simpa using ho1
      have o2 : bits .or .i64 ((Y : Int) * 4) ((N : Int) * 2) = (2 * (Y : Int) + N) * 2 := by simpa using ho2
      obtain ⟨hE, hN, hU⟩ := hqb
      have z1 : ((X * 2 ^ (2 - 0) : Nat) : Int) = (X : Int) * 4 := by simp
      have z2 : ((Y * 2 ^ (2 - 0) : Nat) : Int) = (Y : Int) * 4 := by simp
      have z3 : ((1 : Int) - ((0 : Nat) : Int)) = 1 := by omega
      rw [z1, z2, z3]
      simp only [Nat.reducePow] at hX hY
      clear ho1 ho2 hq HS HB z1 z2 z3 hq4
      go_wp2_with (go_at_call 48; refine (HL.out _).mono ?_; rintro e w' ⟨rfl, rfl⟩)
      go_round
      case rel => exact ⟨1, _, _, _, by omega, by go_num, by go_num, rfl, by go_num, HST⟩
      case measure => simp [intOf]
    · obtain ⟨q, hq⟩ : ∃ q, q = a / 4 ^ 0 % 4 := ⟨_, rfl⟩
      have hq4 : q < 4 := by rw [hq]; exact Nat.mod_lt _ (by decide)
      have hqb := q_bd T hT _ hq4
      have ho1 := or_bit 0 (by omega) X (by simp only [Nat.reducePow] at hX; omega) (qE T q) hqb.1
      have ho2 := or_bit 0 (by omega) Y (by simp only [Nat.reducePow] at hY; omega) (qN T q) hqb.2.1
      have hz : bits .and .i64 ((a : Int)) 3 = q := by
        have := and3 (a / 1) (by omega)
        rw [hq]; simpa using this
      have HL := hid (fun w => quarterAt_c T q hT hq4 w)
      have HST := hid (show 2 * X + qE T q = (cst 2 a 2).1 ∧ 2 * Y + qN T q = (cst 2 a 2).2.1 ∧ qT T q = (cst 2 a 2).2.2 by rw [HS.out.1, HS.out.2.1, HS.out.2.2, hq]; exact ⟨rfl, rfl, rfl⟩)
      generalize qE T q = E at *
      generalize qN T q = N at *
      generalize qT T q = U at *
      have o1 : bits .or .i64 ((X : Int) * 2) ((E : Int)) = 2 * (X : Int) + E := by simpa using ho1
      have o2 : bits .or .i64 ((Y : Int) * 2) ((N : Int)) = 2 * (Y : Int) + N := by simpa using ho2
      obtain ⟨hE, hN, hU⟩ := hqb
      have z1 : ((X * 2 ^ (2 - 1) : Nat) : Int) = (X : Int) * 2 := by simp
      have z2 : ((Y * 2 ^ (2 - 1) : Nat) : Int) = (Y : Int) * 2 := by simp
      have z3 : ((1 : Int) - ((1 : Nat) : Int)) = 0 := by omega
      rw [z1, z2, z3]
      simp only [Nat.reducePow] at hX hY
      clear ho1 ho2 hq HS HB z1 z2 z3 hq4
      go_wp2_with (go_at_call 48; refine (HL.out _).mono ?_; rintro e w' ⟨rfl, rfl⟩)
      go_round
      case rel => exact ⟨2, _, _, _, by omega, by go_num, by go_num, rfl, by go_num, HST⟩
      case measure => simp [intOf]
    · have HE := hid (And.intro (HS.out.1.trans HC.out.1) (HS.out.2.1.trans HC.out.2))
      have z1 : ((X * 2 ^ (2 - 2) : Nat) : Int) = X := by simp
      have z2 : ((Y * 2 ^ (2 - 2) : Nat) : Int) = Y := by simp
      have z3 : ((1 : Int) - ((2 : Nat) : Int)) = -1 := by omega
      rw [z1, z2, z3]
      clear HS HB HC z1 z2 z3
      go_wp2
      go_ret3
      exact ⟨ret_iib (by rw [HE.out.1]) (by rw [HE.out.2]) rfl, rfl⟩
set_option maxHeartbeats 4000000 in
theorem implCell_3 (a : Nat) (ha : a < 64) (w : World) :
    Calls Try.prog 26 #[.int .i64 3, .int .i64 a] w fun e w' => e = .returned (.tuple #[.int .i64 ((hil 3 a).1 : Nat), .int .i64 ((hil 3 a).2 : Nat), .bool true]) ∧ w = w' := by
  have hmf : ∀ (fn : Fn) (first cap : Array Value) (w : World), (Instr.makeFunc fn first cap).run Try.prog w = .ok (.func fn first cap) w := fun _ _ _ _ => rfl
  have hv : hvOk 3 = true := by decide
  have HC := hid (cst_hil 3 (by omega) a ha)
  have HB := hid (cst_bd 3 a)
  go_enter Try.func26, Try.ntmps26
  go_wp2_with (go_at_call 40; refine (halvesOk_c _ _).mono ?_; rintro e w' ⟨rfl, rfl⟩)
  go_loop [7, 8, 9, 10] (fun x y q l => ∃ j X Y T : Nat, j ≤ 3 ∧ x = .int .i64 (X * 2 ^ (3 - j) : Nat) ∧ y = .int .i64 (Y * 2 ^ (3 - j) : Nat) ∧ q = .func (.func 48) #[.int .i64 T] #[] ∧ l = .int .i64 (2 - (j : Int)) ∧ Hid (X = (cst 3 a j).1 ∧ Y = (cst 3 a j).2.1 ∧ T = (cst 3 a j).2.2)) (fun _ _ _ l => (intOf l + 1).toNat)
  case atStart => exact ⟨0, 0, 0, 0, by omega, rfl, rfl, rfl, rfl, hid ⟨rfl, rfl, rfl⟩⟩
  case round =>
    obtain ⟨j, X, Y, T, hj, rfl, rfl, rfl, rfl, HS⟩ := hrel
    have hb := HB.out j
    rw [← HS.out.1, ← HS.out.2.1, ← HS.out.2.2] at hb
    obtain ⟨hX, hY, hT⟩ := hb
    obtain rfl | rfl | rfl | rfl : j = 0 ∨ j = 1 ∨ j = 2 ∨ j = 3 := by omega
    · obtain ⟨q, hq⟩ : ∃ q, q = a / 4 ^ 2 % 4 := ⟨_, rfl⟩
      have hq4 : q < 4 := by rw [hq]; exact Nat.mod_lt _ (by decide)
      have hqb := q_bd T hT _ hq4
      have ho1 := or_bit 2 (by omega) X (by simp only [Nat.reducePow] at hX; omega) (qE T q) hqb.1
      have ho2 := or_bit 2 (by omega) Y (by simp only [Nat.reducePow] at hY; omega) (qN T q) hqb.2.1
      have hz : bits .and .i64 ((a : Int) / 16) 3 = q := by
        have := and3 (a / 16) (by omega)
        rw [hq]; simpa using this
      have HL := hid (fun w => quarterAt_c T q hT hq4 w)
      have HST := hid (show 2 * X + qE T q = (cst 3 a 1).1 ∧ 2 * Y + qN T q = (cst 3 a 1).2.1 ∧ qT T q = (cst 3 a 1).2.2 by rw [HS.out.1, HS.out.2.1, HS.out.2.2, hq]; exact ⟨rfl, rfl, rfl⟩)
      generalize qE T q = E at *
      generalize qN T q = N at *
      generalize qT T q = U at *
      have o1 : bits .or .i64 ((X : Int) * 8) ((E : Int) * 4) = (2 * (X : Int) + E) * 4 := by simpa using ho1
      have o2 : bits .or .i64 ((Y : Int) * 8) ((N : Int) * 4) = (2 * (Y : Int) + N) * 4 := by simpa using ho2
      obtain ⟨hE, hN, hU⟩ := hqb
      have z1 : ((X * 2 ^ (3 - 0) : Nat) : Int) = (X : Int) * 8 := by simp
      have z2 : ((Y * 2 ^ (3 - 0) : Nat) : Int) = (Y : Int) * 8 := by simp
      have z3 : ((2 : Int) - ((0 : Nat) : Int)) = 2 := by omega
      rw [z1, z2, z3]
      simp only [Nat.reducePow] at hX hY
      clear ho1 ho2 hq HS HB z1 z2 z3 hq4
      go_wp2_with (go_at_call 48; refine (HL.out _).mono ?_; rintro e w' ⟨rfl, rfl⟩)
      go_round
      case rel => exact ⟨1, _, _, _, by omega, by go_num, by go_num, rfl, by go_num, HST⟩
      case measure => simp [intOf]
    · obtain ⟨q, hq⟩ : ∃ q, q = a / 4 ^ 1 % 4 := ⟨_, rfl⟩
      have hq4 : q < 4 := by rw [hq]; exact Nat.mod_lt _ (by decide)
      have hqb := q_bd T hT _ hq4
      have ho1 := or_bit 1 (by omega) X (by simp only [Nat.reducePow] at hX; omega) (qE T q) hqb.1
      have ho2 := or_bit 1 (by omega) Y (by simp only [Nat.reducePow] at hY; omega) (qN T q) hqb.2.1
      have hz : bits .and .i64 ((a : Int) / 4) 3 = q := by
        have := and3 (a / 4) (by omega)
        rw [hq]; simpa using this
      have HL := hid (fun w => quarterAt_c T q hT hq4 w)
      have HST := hid (show 2 * X + qE T q = (cst 3 a 2).1 ∧ 2 * Y + qN T q = (cst 3 a 2).2.1 ∧ qT T q = (cst 3 a 2).2.2 by rw [HS.out.1, HS.out.2.1, HS.out.2.2, hq]; exact ⟨rfl, rfl, rfl⟩)
      generalize qE T q = E at *
      generalize qN T q = N at *
      generalize qT T q = U at *
      have o1 : bits .or .i64 ((X : Int) * 4) ((E : Int) * 2) = (2 * (X : Int) + E) * 2 := by simpa using ho1
      have o2 : bits .or .i64 ((Y : Int) * 4) ((N : Int) * 2) = (2 * (Y : Int) + N) * 2 := by simpa using ho2
      obtain ⟨hE, hN, hU⟩ := hqb
      have z1 : ((X * 2 ^ (3 - 1) : Nat) : Int) = (X : Int) * 4 := by simp
      have z2 : ((Y * 2 ^ (3 - 1) : Nat) : Int) = (Y : Int) * 4 := by simp
      have z3 : ((2 : Int) - ((1 : Nat) : Int)) = 1 := by omega
      rw [z1, z2, z3]
      simp only [Nat.reducePow] at hX hY
      clear ho1 ho2 hq HS HB z1 z2 z3 hq4
      go_wp2_with (go_at_call 48; refine (HL.out _).mono ?_; rintro e w' ⟨rfl, rfl⟩)
      go_round
      case rel => exact ⟨2, _, _, _, by omega, by go_num, by go_num, rfl, by go_num, HST⟩
      case measure => simp [intOf]
    · obtain ⟨q, hq⟩ : ∃ q, q = a / 4 ^ 0 % 4 := ⟨_, rfl⟩
      have hq4 : q < 4 := by rw [hq]; exact Nat.mod_lt _ (by decide)
      have hqb := q_bd T hT _ hq4
      have ho1 := or_bit 0 (by omega) X (by simp only [Nat.reducePow] at hX; omega) (qE T q) hqb.1
      have ho2 := or_bit 0 (by omega) Y (by simp only [Nat.reducePow] at hY; omega) (qN T q) hqb.2.1
      have hz : bits .and .i64 ((a : Int)) 3 = q := by
        have := and3 (a / 1) (by omega)
        rw [hq]; simpa using this
      have HL := hid (fun w => quarterAt_c T q hT hq4 w)
      have HST := hid (show 2 * X + qE T q = (cst 3 a 3).1 ∧ 2 * Y + qN T q = (cst 3 a 3).2.1 ∧ qT T q = (cst 3 a 3).2.2 by rw [HS.out.1, HS.out.2.1, HS.out.2.2, hq]; exact ⟨rfl, rfl, rfl⟩)
      generalize qE T q = E at *
      generalize qN T q = N at *
      generalize qT T q = U at *
      have o1 : bits .or .i64 ((X : Int) * 2) ((E : Int)) = 2 * (X : Int) + E := by simpa using ho1
      have o2 : bits .or .i64 ((Y : Int) * 2) ((N : Int)) = 2 * (Y : Int) + N := by simpa using ho2
      obtain ⟨hE, hN, hU⟩ := hqb
      have z1 : ((X * 2 ^ (3 - 2) : Nat) : Int) = (X : Int) * 2 := by simp
      have z2 : ((Y * 2 ^ (3 - 2) : Nat) : Int) = (Y : Int) * 2 := by simp
      have z3 : ((2 : Int) - ((2 : Nat) : Int)) = 0 := by omega
      rw [z1, z2, z3]
      simp only [Nat.reducePow] at hX hY
      clear ho1 ho2 hq HS HB z1 z2 z3 hq4
      go_wp2_with (go_at_call 48; refine (HL.out _).mono ?_; rintro e w' ⟨rfl, rfl⟩)
      go_round
      case rel => exact ⟨3, _, _, _, by omega, by go_num, by go_num, rfl, by go_num, HST⟩
      case measure => simp [intOf]
    · have HE := hid (And.intro (HS.out.1.trans HC.out.1) (HS.out.2.1.trans HC.out.2))
      have z1 : ((X * 2 ^ (3 - 3) : Nat) : Int) = X := by simp
      have z2 : ((Y * 2 ^ (3 - 3) : Nat) : Int) = Y := by simp
      have z3 : ((2 : Int) - ((3 : Nat) : Int)) = -1 := by omega
      rw [z1, z2, z3]
      clear HS HB HC z1 z2 z3
      go_wp2
      go_ret3
      exact ⟨ret_iib (by rw [HE.out.1]) (by rw [HE.out.2]) rfl, rfl⟩
set_option maxHeartbeats 4000000 in
theorem implCell_4 (a : Nat) (ha : a < 256) (w : World) :
    Calls Try.prog 26 #[.int .i64 4, .int .i64 a] w fun e w' => e = .returned (.tuple #[.int .i64 ((hil 4 a).1 : Nat), .int .i64 ((hil 4 a).2 : Nat), .bool true]) ∧ w = w' := by
  have hmf : ∀ (fn : Fn) (first cap : Array Value) (w : World), (Instr.makeFunc fn first cap).run Try.prog w = .ok (.func fn first cap) w := fun _ _ _ _ => rfl
  have hv : hvOk 4 = true := by decide
  have HC := hid (cst_hil 4 (by omega) a ha)
  have HB := hid (cst_bd 4 a)
  go_enter Try.func26, Try.ntmps26
  go_wp2_with (go_at_call 40; refine (halvesOk_c _ _).mono ?_; rintro e w' ⟨rfl, rfl⟩)
  go_loop [7, 8, 9, 10] (fun x y q l => ∃ j X Y T : Nat, j ≤ 4 ∧ x = .int .i64 (X * 2 ^ (4 - j) : Nat) ∧ y = .int .i64 (Y * 2 ^ (4 - j) : Nat) ∧ q = .func (.func 48) #[.int .i64 T] #[] ∧ l = .int .i64 (3 - (j : Int)) ∧ Hid (X = (cst 4 a j).1 ∧ Y = (cst 4 a j).2.1 ∧ T = (cst 4 a j).2.2)) (fun _ _ _ l => (intOf l + 1).toNat)
  case atStart => exact ⟨0, 0, 0, 0, by omega, rfl, rfl, rfl, rfl, hid ⟨rfl, rfl, rfl⟩⟩
  case round =>
    obtain ⟨j, X, Y, T, hj, rfl, rfl, rfl, rfl, HS⟩ := hrel
    have hb := HB.out j
    rw [← HS.out.1, ← HS.out.2.1, ← HS.out.2.2] at hb
    obtain ⟨hX, hY, hT⟩ := hb
    obtain rfl | rfl | rfl | rfl | rfl : j = 0 ∨ j = 1 ∨ j = 2 ∨ j = 3 ∨ j = 4 := by omega
    · obtain ⟨q, hq⟩ : ∃ q, q = a / 4 ^ 3 % 4 := ⟨_, rfl⟩
      have hq4 : q < 4 := by rw [hq]; exact Nat.mod_lt _ (by decide)
      have hqb := q_bd T hT _ hq4
      have ho1 := or_bit 3 (by omega) X (by simp only [Nat.reducePow] at hX; omega) (qE T q) hqb.1
      have ho2 := or_bit 3 (by omega) Y (by simp only [Nat.reducePow] at hY; omega) (qN T q) hqb.2.1
      have hz : bits .and .i64 ((a : Int) / 64) 3 = q := by
        have := and3 (a / 64) (by omega)
        rw [hq]; simpa using this
      have HL := hid (fun w => quarterAt_c T q hT hq4 w)
      have HST := hid (show 2 * X + qE T q = (cst 4 a 1).1 ∧ 2 * Y + qN T q = (cst 4 a 1).2.1 ∧ qT T q = (cst 4 a 1).2.2 by rw [HS.out.1, HS.out.2.1, HS.out.2.2, hq]; exact ⟨rfl, rfl, rfl⟩)
      generalize qE T q = E at *
      generalize qN T q = N at *
      generalize qT T q = U at *
      have o1 : bits .or .i64 ((X : Int) * 16) ((E : Int) * 8) = (2 * (X : Int) + E) * 8 := by simpa using ho1
      have o2 : bits .or .i64 ((Y : Int) * 16) ((N : Int) * 8) = (2 * (Y : Int) + N) * 8 := by simpa using ho2
      obtain ⟨hE, hN, hU⟩ := hqb
      have z1 : ((X * 2 ^ (4 - 0) : Nat) : Int) = (X : Int) * 16 := by simp
      have z2 : ((Y * 2 ^ (4 - 0) : Nat) : Int) = (Y : Int) * 16 := by simp
      have z3 : ((3 : Int) - ((0 : Nat) : Int)) = 3 := by omega
      rw [z1, z2, z3]
      simp only [Nat.reducePow] at hX hY
      clear ho1 ho2 hq HS HB z1 z2 z3 hq4
      go_wp2_with (go_at_call 48; refine (HL.out _).mono ?_; rintro e w' ⟨rfl, rfl⟩)
      go_round
      case rel => exact ⟨1, _, _, _, by omega, by go_num, by go_num, rfl, by go_num, HST⟩
      case measure => simp [intOf]
    · obtain ⟨q, hq⟩ : ∃ q, q = a / 4 ^ 2 % 4 := ⟨_, rfl⟩
      have hq4 : q < 4 := by rw [hq]; exact Nat.mod_lt _ (by decide)
      have hqb := q_bd T hT _ hq4
      have ho1 := or_bit 2 (by omega) X (by simp only [Nat.reducePow] at hX; omega) (qE T q) hqb.1
      have ho2 := or_bit 2 (by omega) Y (by simp only [Nat.reducePow] at hY; omega) (qN T q) hqb.2.1
      have hz : bits .and .i64 ((a : Int) / 16) 3 = q := by
        have := and3 (a / 16) (by omega)
        rw [hq]; simpa using this
      have HL := hid (fun w => quarterAt_c T q hT hq4 w)
      have HST := hid (show 2 * X + qE T q = (cst 4 a 2).1 ∧ 2 * Y + qN T q = (cst 4 a 2).2.1 ∧ qT T q = (cst 4 a 2).2.2 by rw [HS.out.1, HS.out.2.1, HS.out.2.2, hq]; exact ⟨rfl, rfl, rfl⟩)
      generalize qE T q = E at *
      generalize qN T q = N at *
      generalize qT T q = U at *
      have o1 : bits .or .i64 ((X : Int) * 8) ((E : Int) * 4) = (2 * (X : Int) + E) * 4 := by simpa using ho1
      have o2 : bits .or .i64 ((Y : Int) * 8) ((N : Int) * 4) = (2 * (Y : Int) + N) * 4 := by simpa using ho2
      obtain ⟨hE, hN, hU⟩ := hqb
      have z1 : ((X * 2 ^ (4 - 1) : Nat) : Int) = (X : Int) * 8 := by simp
      have z2 : ((Y * 2 ^ (4 - 1) : Nat) : Int) = (Y : Int) * 8 := by simp
      have z3 : ((3 : Int) - ((1 : Nat) : Int)) = 2 := by omega
      rw [z1, z2, z3]
      simp only [Nat.reducePow] at hX hY
      clear ho1 ho2 hq HS HB z1 z2 z3 hq4
      go_wp2_with (go_at_call 48; refine (HL.out _).mono ?_; rintro e w' ⟨rfl, rfl⟩)
      go_round
      case rel => exact ⟨2, _, _, _, by omega, by go_num, by go_num, rfl, by go_num, HST⟩
      case measure => simp [intOf]
    · obtain ⟨q, hq⟩ : ∃ q, q = a / 4 ^ 1 % 4 := ⟨_, rfl⟩
      have hq4 : q < 4 := by rw [hq]; exact Nat.mod_lt _ (by decide)
      have hqb := q_bd T hT _ hq4
      have ho1 := or_bit 1 (by omega) X (by simp only [Nat.reducePow] at hX; omega) (qE T q) hqb.1
      have ho2 := or_bit 1 (by omega) Y (by simp only [Nat.reducePow] at hY; omega) (qN T q) hqb.2.1
      have hz : bits .and .i64 ((a : Int) / 4) 3 = q := by
        have := and3 (a / 4) (by omega)
        rw [hq]; simpa using this
      have HL := hid (fun w => quarterAt_c T q hT hq4 w)
      have HST := hid (show 2 * X + qE T q = (cst 4 a 3).1 ∧ 2 * Y + qN T q = (cst 4 a 3).2.1 ∧ qT T q = (cst 4 a 3).2.2 by rw [HS.out.1, HS.out.2.1, HS.out.2.2, hq]; exact ⟨rfl, rfl, rfl⟩)
      generalize qE T q = E at *
      generalize qN T q = N at *
      generalize qT T q = U at *
      have o1 : bits .or .i64 ((X : Int) * 4) ((E : Int) * 2) = (2 * (X : Int) + E) * 2 := by simpa using ho1
      have o2 : bits .or .i64 ((Y : Int) * 4) ((N : Int) * 2) = (2 * (Y : Int) + N) * 2 := by simpa using ho2
      obtain ⟨hE, hN, hU⟩ := hqb
      have z1 : ((X * 2 ^ (4 - 2) : Nat) : Int) = (X : Int) * 4 := by simp
      have z2 : ((Y * 2 ^ (4 - 2) : Nat) : Int) = (Y : Int) * 4 := by simp
      have z3 : ((3 : Int) - ((2 : Nat) : Int)) = 1 := by omega
      rw [z1, z2, z3]
      simp only [Nat.reducePow] at hX hY
      clear ho1 ho2 hq HS HB z1 z2 z3 hq4
      go_wp2_with (go_at_call 48; refine (HL.out _).mono ?_; rintro e w' ⟨rfl, rfl⟩)
      go_round
      case rel => exact ⟨3, _, _, _, by omega, by go_num, by go_num, rfl, by go_num, HST⟩
      case measure => simp [intOf]
    · obtain ⟨q, hq⟩ : ∃ q, q = a / 4 ^ 0 % 4 := ⟨_, rfl⟩
      have hq4 : q < 4 := by rw [hq]; exact Nat.mod_lt _ (by decide)
      have hqb := q_bd T hT _ hq4
      have ho1 := or_bit 0 (by omega) X (by simp only [Nat.reducePow] at hX; omega) (qE T q) hqb.1
      have ho2 := or_bit 0 (by omega) Y (by simp only [Nat.reducePow] at hY; omega) (qN T q) hqb.2.1
      have hz : bits .and .i64 ((a : Int)) 3 = q := by
        have := and3 (a / 1) (by omega)
        rw [hq]; simpa using this
      have HL := hid (fun w => quarterAt_c T q hT hq4 w)
      have HST := hid (show 2 * X + qE T q = (cst 4 a 4).1 ∧ 2 * Y + qN T q = (cst 4 a 4).2.1 ∧ qT T q = (cst 4 a 4).2.2 by rw [HS.out.1, HS.out.2.1, HS.out.2.2, hq]; exact ⟨rfl, rfl, rfl⟩)
      generalize qE T q = E at *
      generalize qN T q = N at *
      generalize qT T q = U at *
      have o1 : bits .or .i64 ((X : Int) * 2) ((E : Int)) = 2 * (X : Int) + E := by simpa using ho1
      have o2 : bits .or .i64 ((Y : Int) * 2) ((N : Int)) = 2 * (Y : Int) + N := by simpa using ho2
      obtain ⟨hE, hN, hU⟩ := hqb
      have z1 : ((X * 2 ^ (4 - 3) : Nat) : Int) = (X : Int) * 2 := by simp
      have z2 : ((Y * 2 ^ (4 - 3) : Nat) : Int) = (Y : Int) * 2 := by simp
      have z3 : ((3 : Int) - ((3 : Nat) : Int)) = 0 := by omega
      rw [z1, z2, z3]
      simp only [Nat.reducePow] at hX hY
      clear ho1 ho2 hq HS HB z1 z2 z3 hq4
      go_wp2_with (go_at_call 48; refine (HL.out _).mono ?_; rintro e w' ⟨rfl, rfl⟩)
      go_round
      case rel => exact ⟨4, _, _, _, by omega, by go_num, by go_num, rfl, by go_num, HST⟩
      case measure => simp [intOf]
    · have HE := hid (And.intro (HS.out.1.trans HC.out.1) (HS.out.2.1.trans HC.out.2))
      have z1 : ((X * 2 ^ (4 - 4) : Nat) : Int) = X := by simp
      have z2 : ((Y * 2 ^ (4 - 4) : Nat) : Int) = Y := by simp
      have z3 : ((3 : Int) - ((4 : Nat) : Int)) = -1 := by omega
      rw [z1, z2, z3]
      clear HS HB HC z1 z2 z3
      go_wp2
      go_ret3
      exact ⟨ret_iib (by rw [HE.out.1]) (by rw [HE.out.2]) rfl, rfl⟩
set_option maxHeartbeats 4000000 in
theorem implCell_5 (a : Nat) (ha : a < 1024) (w : World) :
    Calls Try.prog 26 #[.int .i64 5, .int .i64 a] w fun e w' => e = .returned (.tuple #[.int .i64 ((hil 5 a).1 : Nat), .int .i64 ((hil 5 a).2 : Nat), .bool true]) ∧ w = w' := by
  have hmf : ∀ (fn : Fn) (first cap : Array Value) (w : World), (Instr.makeFunc fn first cap).run Try.prog w = .ok (.func fn first cap) w := fun _ _ _ _ => rfl
  have hv : hvOk 5 = true := by decide
  have HC := hid (cst_hil 5 (by omega) a ha)
  have HB := hid (cst_bd 5 a)
  go_enter Try.func26, Try.ntmps26
  go_wp2_with (go_at_call 40; refine (halvesOk_c _ _).mono ?_; rintro e w' ⟨rfl, rfl⟩)
  go_loop [7, 8, 9, 10] (fun x y q l => ∃ j X Y T : Nat, j ≤ 5 ∧ x = .int .i64 (X * 2 ^ (5 - j) : Nat) ∧ y = .int .i64 (Y * 2 ^ (5 - j) : Nat) ∧ q = .func (.func 48) #[.int .i64 T] #[] ∧ l = .int .i64 (4 - (j : Int)) ∧ Hid (X = (cst 5 a j).1 ∧ Y = (cst 5 a j).2.1 ∧ T = (cst 5 a j).2.2)) (fun _ _ _ l => (intOf l + 1).toNat)
  case atStart => exact ⟨0, 0, 0, 0, by omega, rfl, rfl, rfl, rfl, hid ⟨rfl, rfl, rfl⟩⟩
  case round =>
    obtain ⟨j, X, Y, T, hj, rfl, rfl, rfl, rfl, HS⟩ := hrel
    have hb := HB.out j
    rw [← HS.out.1, ← HS.out.2.1, ← HS.out.2.2] at hb
    obtain ⟨hX, hY, hT⟩ := hb
    obtain rfl | rfl | rfl | rfl | rfl | rfl : j = 0 ∨ j = 1 ∨ j = 2 ∨ j = 3 ∨ j = 4 ∨ j = 5 := by omega
    · obtain ⟨q, hq⟩ : ∃ q, q = a / 4 ^ 4 % 4 := ⟨_, rfl⟩
      have hq4 : q < 4 := by rw [hq]; exact Nat.mod_lt _ (by decide)
      have hqb := q_bd T hT _ hq4
      have ho1 := or_bit 4 (by omega) X (by simp only [Nat.reducePow] at hX; omega) (qE T q) hqb.1
      have ho2 := or_bit 4 (by omega) Y (by simp only [Nat.reducePow] at hY; omega) (qN T q) hqb.2.1
      have hz : bits .and .i64 ((a : Int) / 256) 3 = q := by
        have := and3 (a / 256) (by omega)
        rw [hq]; simpa using this
      have HL := hid (fun w => quarterAt_c T q hT hq4 w)
      have HST := hid (show 2 * X + qE T q = (cst 5 a 1).1 ∧ 2 * Y + qN T q = (cst 5 a 1).2.1 ∧ qT T q = (cst 5 a 1).2.2 by rw [HS.out.1, HS.out.2.1, HS.out.2.2, hq]; exact ⟨rfl, rfl, rfl⟩)
      generalize qE T q = E at *
      generalize qN T q = N at *
      generalize qT T q = U at *
      have o1 : bits .or .i64 ((X : Int) * 32) ((E : Int) * 16) = (2 * (X : Int) + E) * 16 := by simpa using ho1
      have o2 : bits .or .i64 ((Y : Int) * 32) ((N : Int) * 16) = (2 * (Y : Int) + N) * 16 := by simpa using ho2
      obtain ⟨hE, hN, hU⟩ := hqb
      have z1 : ((X * 2 ^ (5 - 0) : Nat) : Int) = (X : Int) * 32 := by simp
      have z2 : ((Y * 2 ^ (5 - 0) : Nat) : Int) = (Y : Int) * 32 := by simp
      have z3 : ((4 : Int) - ((0 : Nat) : Int)) = 4 := by omega
      rw [z1, z2, z3]
      simp only [Nat.reducePow] at hX hY
      clear ho1 ho2 hq HS HB z1 z2 z3 hq4
      go_wp2_with (go_at_call 48; refine (HL.out _).mono ?_; rintro e w' ⟨rfl, rfl⟩)
      go_round
      case rel => exact ⟨1, _, _, _, by omega, by go_num, by go_num, rfl, by go_num, HST⟩
      case measure => simp [intOf]
    · obtain ⟨q, hq⟩ : ∃ q, q = a / 4 ^ 3 % 4 := ⟨_, rfl⟩
      have hq4 : q < 4 := by rw [hq]; exact Nat.mod_lt _ (by decide)
      have hqb := q_bd T hT _ hq4
      have ho1 := or_bit 3 (by omega) X (by simp only [Nat.reducePow] at hX; omega) (qE T q) hqb.1
      have ho2 := or_bit 3 (by omega) Y (by simp only [Nat.reducePow] at hY; omega) (qN T q) hqb.2.1
      have hz : bits .and .i64 ((a : Int) / 64) 3 = q := by
        have := and3 (a / 64) (by omega)
        rw [hq]; simpa using this
      have HL := hid (fun w => quarterAt_c T q hT hq4 w)
      have HST := hid (show 2 * X + qE T q = (cst 5 a 2).1 ∧ 2 * Y + qN T q = (cst 5 a 2).2.1 ∧ qT T q = (cst 5 a 2).2.2 by rw [HS.out.1, HS.out.2.1, HS.out.2.2, hq]; exact ⟨rfl, rfl, rfl⟩)
      generalize qE T q = E at *
      generalize qN T q = N at *
      generalize qT T q = U at *
      have o1 : bits .or .i64 ((X : Int) * 16) ((E : Int) * 8) = (2 * (X : Int) + E) * 8 := by simpa using ho1
      have o2 : bits .or .i64 ((Y : Int) * 16) ((N : Int) * 8) = (2 * (Y : Int) + N) * 8 := by simpa using ho2
      obtain ⟨hE, hN, hU⟩ := hqb
      have z1 : ((X * 2 ^ (5 - 1) : Nat) : Int) = (X : Int) * 16 := by simp
      have z2 : ((Y * 2 ^ (5 - 1) : Nat) : Int) = (Y : Int) * 16 := by simp
      have z3 : ((4 : Int) - ((1 : Nat) : Int)) = 3 := by omega
      rw [z1, z2, z3]
      simp only [Nat.reducePow] at hX hY
      clear ho1 ho2 hq HS HB z1 z2 z3 hq4
      go_wp2_with (go_at_call 48; refine (HL.out _).mono ?_; rintro e w' ⟨rfl, rfl⟩)
      go_round
      case rel => exact ⟨2, _, _, _, by omega, by go_num, by go_num, rfl, by go_num, HST⟩
      case measure => simp [intOf]
    · obtain ⟨q, hq⟩ : ∃ q, q = a / 4 ^ 2 % 4 := ⟨_, rfl⟩
      have hq4 : q < 4 := by rw [hq]; exact Nat.mod_lt _ (by decide)
      have hqb := q_bd T hT _ hq4
      have ho1 := or_bit 2 (by omega) X (by simp only [Nat.reducePow] at hX; omega) (qE T q) hqb.1
      have ho2 := or_bit 2 (by omega) Y (by simp only [Nat.reducePow] at hY; omega) (qN T q) hqb.2.1
      have hz : bits .and .i64 ((a : Int) / 16) 3 = q := by
        have := and3 (a / 16) (by omega)
        rw [hq]; simpa using this
      have HL := hid (fun w => quarterAt_c T q hT hq4 w)
      have HST := hid (show 2 * X + qE T q = (cst 5 a 3).1 ∧ 2 * Y + qN T q = (cst 5 a 3).2.1 ∧ qT T q = (cst 5 a 3).2.2 by rw [HS.out.1, HS.out.2.1, HS.out.2.2, hq]; exact ⟨rfl, rfl, rfl⟩)
      generalize qE T q = E at *
      generalize qN T q = N at *
      generalize qT T q = U at *
      have o1 : bits .or .i64 ((X : Int) * 8) ((E : Int) * 4) = (2 * (X : Int) + E) * 4 := by simpa using ho1
      have o2 : bits .or .i64 ((Y : Int) * 8) ((N : Int) * 4) = (2 * (Y : Int) + N) * 4 := by simpa using ho2
      obtain ⟨hE, hN, hU⟩ := hqb
      have z1 : ((X * 2 ^ (5 - 2) : Nat) : Int) = (X : Int) * 8 := by simp
      have z2 : ((Y * 2 ^ (5 - 2) : Nat) : Int) = (Y : Int) * 8 := by simp
      have z3 : ((4 : Int) - ((2 : Nat) : Int)) = 2 := by omega
      rw [z1, z2, z3]
      simp only [Nat.reducePow] at hX hY
      clear ho1 ho2 hq HS HB z1 z2 z3 hq4
      go_wp2_with (go_at_call 48; refine (HL.out _).mono ?_; rintro e w' ⟨rfl, rfl⟩)
      go_round
      case rel => exact ⟨3, _, _, _, by omega, by go_num, by go_num, rfl, by go_num, HST⟩
      case measure => simp [intOf]
    · obtain ⟨q, hq⟩ : ∃ q, q = a / 4 ^ 1 % 4 := ⟨_, rfl⟩
      have hq4 : q < 4 := by rw [hq]; exact Nat.mod_lt _ (by decide)
      have hqb := q_bd T hT _ hq4
      have ho1 := or_bit 1 (by omega) X (by simp only [Nat.reducePow] at hX; omega) (qE T q) hqb.1
      have ho2 := or_bit 1 (by omega) Y (by simp only [Nat.reducePow] at hY; omega) (qN T q) hqb.2.1
      have hz : bits .and .i64 ((a : Int) / 4) 3 = q := by
        have := and3 (a / 4) (by omega)
        rw [hq]; simpa using this
      have HL := hid (fun w => quarterAt_c T q hT hq4 w)
      have HST := hid (show 2 * X + qE T q = (cst 5 a 4).1 ∧ 2 * Y + qN T q = (cst 5 a 4).2.1 ∧ qT T q = (cst 5 a 4).2.2 by rw [HS.out.1, HS.out.2.1, HS.out.2.2, hq]; exact ⟨rfl, rfl, rfl⟩)
      generalize qE T q = E at *
      generalize qN T q = N at *
      generalize qT T q = U at *
      have o1 : bits .or .i64 ((X : Int) * 4) ((E : Int) * 2) = (2 * (X : Int) + E) * 2 := by simpa using ho1
      have o2 : bits .or .i64 ((Y : Int) * 4) ((N : Int) * 2) = (2 * (Y : Int) + N) * 2 := by simpa using ho2
      obtain ⟨hE, hN, hU⟩ := hqb
      have z1 : ((X * 2 ^ (5 - 3) : Nat) : Int) = (X : Int) * 4 := by simp
      have z2 : ((Y * 2 ^ (5 - 3) : Nat) : Int) = (Y : Int) * 4 := by simp
      have z3 : ((4 : Int) - ((3 : Nat) : Int)) = 1 := by omega
      rw [z1, z2, z3]
      simp only [Nat.reducePow] at hX hY
      clear ho1 ho2 hq HS HB z1 z2 z3 hq4
      go_wp2_with (go_at_call 48; refine (HL.out _).mono ?_; rintro e w' ⟨rfl, rfl⟩)
      go_round
      case rel => exact ⟨4, _, _, _, by omega, by go_num, by go_num, rfl, by go_num, HST⟩
      case measure => simp [intOf]
    · obtain ⟨q, hq⟩ : ∃ q, q = a / 4 ^ 0 % 4 := ⟨_, rfl⟩
      have hq4 : q < 4 := by rw [hq]; exact Nat.mod_lt _ (by decide)
      have hqb := q_bd T hT _ hq4
      have ho1 := or_bit 0 (by omega) X (by simp only [Nat.reducePow] at hX; omega) (qE T q) hqb.1
      have ho2 := or_bit 0 (by omega) Y (by simp only [Nat.reducePow] at hY; omega) (qN T q) hqb.2.1
      have hz : bits .and .i64 ((a : Int)) 3 = q := by
        have := and3 (a / 1) (by omega)
        rw [hq]; simpa using this
      have HL := hid (fun w => quarterAt_c T q hT hq4 w)
      have HST := hid (show 2 * X + qE T q = (cst 5 a 5).1 ∧ 2 * Y + qN T q = (cst 5 a 5).2.1 ∧ qT T q = (cst 5 a 5).2.2 by rw [HS.out.1, HS.out.2.1, HS.out.2.2, hq]; exact ⟨rfl, rfl, rfl⟩)
      generalize qE T q = E at *
      generalize qN T q = N at *
      generalize qT T q = U at *
      have o1 : bits .or .i64 ((X : Int) * 2) ((E : Int)) = 2 * (X : Int) + E := by simpa using ho1
      have o2 : bits .or .i64 ((Y : Int) * 2) ((N : Int)) = 2 * (Y : Int) + N := by simpa using ho2
      obtain ⟨hE, hN, hU⟩ := hqb
      have z1 : ((X * 2 ^ (5 - 4) : Nat) : Int) = (X : Int) * 2 := by simp
      have z2 : ((Y * 2 ^ (5 - 4) : Nat) : Int) = (Y : Int) * 2 := by simp
      have z3 : ((4 : Int) - ((4 : Nat) : Int)) = 0 := by omega
      rw [z1, z2, z3]
      simp only [Nat.reducePow] at hX hY
      clear ho1 ho2 hq HS HB z1 z2 z3 hq4
      go_wp2_with (go_at_call 48; refine (HL.out _).mono ?_; rintro e w' ⟨rfl, rfl⟩)
      go_round
      case rel => exact ⟨5, _, _, _, by omega, by go_num, by go_num, rfl, by go_num, HST⟩
      case measure => simp [intOf]
    · have HE := hid (And.intro (HS.out.1.trans HC.out.1) (HS.out.2.1.trans HC.out.2))
      have z1 : ((X * 2 ^ (5 - 5) : Nat) : Int) = X := by simp
      have z2 : ((Y * 2 ^ (5 - 5) : Nat) : Int) = Y := by simp
      have z3 : ((4 : Int) - ((5 : Nat) : Int)) = -1 := by omega
      rw [z1, z2, z3]
      clear HS HB HC z1 z2 z3
      go_wp2
      go_ret3
      exact ⟨ret_iib (by rw [HE.out.1]) (by rw [HE.out.2]) rfl, rfl⟩
theorem implCell_c (h n : Int) (w : World) :
    Calls Try.prog 26 #[.int .i64 h, .int .i64 n] w fun e w' => e = .returned (.tuple #[.int .i64 (hX h n), .int .i64 (hY h n), .bool (nuOk h n)]) ∧ w = w' := by
  cases hv : hvOk h with
  | false =>
    have hf : nuOk h n = false := by unfold nuOk; rw [hv]; rfl
    have hr : Hid (hX h n = 0 ∧ hY h n = 0) := by unfold hX hY; rw [hf]; exact ⟨rfl, rfl⟩
    have HF := hid hf; clear hf
    go_enter Try.func26, Try.ntmps26
    go_wp2_with (go_at_call 40; refine (halvesOk_c _ _).mono ?_; rintro e w' ⟨rfl, rfl⟩)
    go_ret3
    exact ⟨ret_iib hr.out.1.symm hr.out.2.symm HF.out.symm, rfl⟩
  | true =>
    obtain ⟨k, rfl, hk⟩ := hvOk_nat hv
    have hw := wrap_pow (2 * k) (by omega)
    have e2 : (2 * (k : Int)).toNat = 2 * k := by omega
    have hs : nuOk k n = (decide (0 ≤ n) && decide (n < 2 ^ (2 * k))) := by unfold nuOk; rw [hv]; rfl
    by_cases h1 : 0 ≤ n
    · by_cases h2 : n < 2 ^ (2 * k)
      · have ht : nuOk k n = true := by rw [hs]; simp [h1, h2]
        obtain ⟨k', a, e1, rfl, _, ha⟩ := nuOk_nat ht
        obtain rfl : k = k' := by omega
        rw [hX_of hk ha, hY_of hk ha, ht]
        clear e1 h1 h2 hs ht e2 hw hv
        obtain rfl | rfl | rfl | rfl | rfl | rfl : k = 0 ∨ k = 1 ∨ k = 2 ∨ k = 3 ∨ k = 4 ∨ k = 5 := by omega
        · exact implCell_0 a ha w
        · exact implCell_1 a ha w
        · exact implCell_2 a ha w
        · exact implCell_3 a ha w
        · exact implCell_4 a ha w
        · exact implCell_5 a ha w
      · have hf : nuOk k n = false := by rw [hs]; simp [h2]
        have hr : Hid (hX k n = 0 ∧ hY k n = 0) := by unfold hX hY; rw [hf]; exact ⟨rfl, rfl⟩
        have HF := hid hf; clear hf hs
        go_enter Try.func26, Try.ntmps26
        go_wp2_with (go_at_call 40; refine (halvesOk_c _ _).mono ?_; rintro e w' ⟨rfl, rfl⟩)
        go_ret3
        exact ⟨ret_iib hr.out.1.symm hr.out.2.symm HF.out.symm, rfl⟩
    · have hf : nuOk k n = false := by rw [hs]; simp [h1]
      have hr : Hid (hX k n = 0 ∧ hY k n = 0) := by unfold hX hY; rw [hf]; exact ⟨rfl, rfl⟩
      have HF := hid hf; clear hf hs
      go_enter Try.func26, Try.ntmps26
      go_wp2_with (go_at_call 40; refine (halvesOk_c _ _).mono ?_; rintro e w' ⟨rfl, rfl⟩)
      go_ret3
      exact ⟨ret_iib hr.out.1.symm hr.out.2.symm HF.out.symm, rfl⟩

end Go.Proofs.Ytbklcalpojkjfaa
