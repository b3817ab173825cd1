/- Contracts: FarthestApart of both packages. -/
import Derived.Test.YtbklcalpojkjfaaHil4
namespace Go.Proofs.Ytbklcalpojkjfaa
open Go.RowKit TW

def mx (a b : Int) : Int := if a < b then b else a
/-- How far two cells are apart. -/
def apartI (x y a b : Int) : Int := mx (x - a) (a - x) + mx (y - b) (b - y)
def apart (h p j : Nat) : Int := apartI (hil h j).1 (hil h j).2 (hil h (j + p)).1 (hil h (j + p)).2
def farTo (h p : Nat) : Nat → Int
  | 0 => 0
  | j + 1 => mx (farTo h p j) (apart h p j)
theorem apartI_bd {x y a b n : Int} (hx : 0 ≤ x ∧ x < n) (hy : 0 ≤ y ∧ y < n) (ha : 0 ≤ a ∧ a < n) (hb : 0 ≤ b ∧ b < n) : 0 ≤ apartI x y a b ∧ apartI x y a b ≤ 2 * n := by
  unfold apartI mx; (repeat' split) <;> omega
theorem mx_bd {a b n : Int} (ha : 0 ≤ a ∧ a ≤ n) (hb : 0 ≤ b ∧ b ≤ n) : 0 ≤ mx a b ∧ mx a b ≤ n := by unfold mx; split <;> omega
theorem apart_sign (x y a b : Int) : mx (a - x) (-(a - x)) + mx (b - y) (-(b - y)) = apartI x y a b := by unfold apartI mx; (repeat' split) <;> omega
theorem withoutSign_c (n : Int) (hn : -1000000 ≤ n ∧ n ≤ 1000000) (w : World) :
    Calls Try.prog 50 #[.int .i64 n] w fun e w' => e = .returned (.int .i64 (mx n (-n))) ∧ w = w' := by
  obtain ⟨h1, h2⟩ := hn
  go_enter Try.func50, Try.ntmps50
  go_wp2
  all_goals
    go_ret
    exact ⟨ret_int (by unfold mx; split <;> omega), rfl⟩
def far (h p : Int) : Int := if (2 ≤ h ∧ h ≤ 4) ∧ (1 ≤ p ∧ p ≤ 15) then farTo h.toNat p.toNat (4 ^ h.toNat - p.toNat) else -1

set_option maxRecDepth 100000 in
set_option maxHeartbeats 4000000 in
theorem specFar_2 (p : Nat) (hp1 : 1 ≤ p) (hp2 : p ≤ 15) (w : World) :
    Calls Try.prog 32 #[.int .i64 2, .int .i64 p] w fun e w' => e = .returned (.int .i64 (farTo 2 p (16 - p))) ∧ w = w' := by
  have hq1 : (1 : Int) ≤ p := by omega
  have hq2 : (p : Int) ≤ 15 := by omega
  have HL := hid (fun n hn w => l8Cell_2 n hn w)
  go_enter Try.func32, Try.ntmps32
  go_wp2_with (go_at_call 39; refine (l1In_c _ _ _ _).mono ?_; rintro e w' ⟨rfl, rfl⟩)
  go_loop [5, 6] (fun m k => ∃ j : Nat, ∃ M : Int, j ≤ 16 - p ∧ m = .int .i64 M ∧ k = .int .i64 j ∧ 0 ≤ M ∧ M ≤ 8 ∧ Hid (M = farTo 2 p j)) (fun _ k => 26 - (intOf k).toNat)
  case atStart => exact ⟨0, 0, by omega, rfl, rfl, by omega, by omega, hid rfl⟩
  case round =>
    obtain ⟨j, M, hj, rfl, rfl, hM0, hM1, HM⟩ := hrel
    by_cases hlt : j + p < 16
    · have hb := hil_lt 2 (by omega) j (by simp only [Nat.reducePow]; omega)
      have hb2 := hil_lt 2 (by omega) (j + p) (by simp only [Nat.reducePow]; omega)
      simp only [Nat.reducePow] at hb hb2
      obtain ⟨hb0, hb1⟩ := hb
      obtain ⟨hb2, hb3⟩ := hb2
      have hab : 0 ≤ apart 2 p j ∧ apart 2 p j ≤ 2 * 4 := apartI_bd (by omega) (by omega) (by omega) (by omega)
      have hm := mx_bd (n := 8) ⟨hM0, hM1⟩ hab
      have HAB := hid (And.intro hab hm)
      have HST := hid (show mx M (apart 2 p j) = farTo 2 p (j + 1) by rw [HM.out]; rfl)
      clear hab hm
      have L1 := hid (HL.out j (by omega))
      have L2 := hid (show ∀ w, Calls Try.prog 47 #[.int .i64 2, .int .i64 ((j : Int) + p)] w fun e w' => e = .returned (.tuple #[.int .i64 ((hil 2 (j + p)).1 : Nat), .int .i64 ((hil 2 (j + p)).2 : Nat)]) ∧ w = w' from HL.out (j + p) (by omega))
      go_wp2_with (first
        | (go_at_call 47; first | ((with_reducible refine (L1.out _).mono ?_); rintro e w' ⟨rfl, rfl⟩) | ((with_reducible refine (L2.out _).mono ?_); rintro e w' ⟨rfl, rfl⟩)))
      go_round
      case rel => exact ⟨j + 1, _, by omega, rfl, by go_num, HAB.out.2.1, HAB.out.2.2, HST⟩
      case measure => simp [intOf]; omega
    · obtain rfl : j = 16 - p := by omega
      go_wp2
      go_ret
      exact ⟨ret_int HM.out, rfl⟩
set_option maxRecDepth 100000 in
set_option maxHeartbeats 4000000 in
theorem implFar_2 (p : Nat) (hp1 : 1 ≤ p) (hp2 : p ≤ 15) (w : World) :
    Calls Try.prog 33 #[.int .i64 2, .int .i64 p] w fun e w' => e = .returned (.int .i64 (farTo 2 p (16 - p))) ∧ w = w' := by
  have hq1 : (1 : Int) ≤ p := by omega
  have hq2 : (p : Int) ≤ 15 := by omega
  have HL := hid (fun n hn w => implCell_2 n hn w)
  go_enter Try.func33, Try.ntmps33
  go_wp2_with fail
  go_loop [5, 6] (fun m k => ∃ j : Nat, ∃ M : Int, j ≤ 16 - p ∧ m = .int .i64 M ∧ k = .int .i64 j ∧ 0 ≤ M ∧ M ≤ 8 ∧ Hid (M = farTo 2 p j)) (fun _ k => 26 - (intOf k).toNat)
  case atStart => exact ⟨0, 0, by omega, rfl, rfl, by omega, by omega, hid rfl⟩
  case round =>
    obtain ⟨j, M, hj, rfl, rfl, hM0, hM1, HM⟩ := hrel
    by_cases hlt : j + p < 16
    · have hb := hil_lt 2 (by omega) j (by simp only [Nat.reducePow]; omega)
      have hb2 := hil_lt 2 (by omega) (j + p) (by simp only [Nat.reducePow]; omega)
      simp only [Nat.reducePow] at hb hb2
      obtain ⟨hb0, hb1⟩ := hb
      obtain ⟨hb2, hb3⟩ := hb2
      have hab : 0 ≤ apart 2 p j ∧ apart 2 p j ≤ 2 * 4 := apartI_bd (by omega) (by omega) (by omega) (by omega)
      have hm := mx_bd (n := 8) ⟨hM0, hM1⟩ hab
      have HAB := hid (And.intro hab hm)
      have HST := hid (show mx M (apart 2 p j) = farTo 2 p (j + 1) by rw [HM.out]; rfl)
      clear hm; obtain ⟨ha0, ha1⟩ := hab; have hsg : mx (((hil 2 (j + p)).1 : Int) - ((hil 2 j).1 : Int)) (-(((hil 2 (j + p)).1 : Int) - ((hil 2 j).1 : Int))) + mx (((hil 2 (j + p)).2 : Int) - ((hil 2 j).2 : Int)) (-(((hil 2 (j + p)).2 : Int) - ((hil 2 j).2 : Int))) = apart 2 p j := apart_sign _ _ _ _
      have L1 := hid (HL.out j (by omega))
      have L2 := hid (show ∀ w, Calls Try.prog 26 #[.int .i64 2, .int .i64 ((j : Int) + p)] w fun e w' => e = .returned (.tuple #[.int .i64 ((hil 2 (j + p)).1 : Nat), .int .i64 ((hil 2 (j + p)).2 : Nat), .bool true]) ∧ w = w' from HL.out (j + p) (by omega))
      go_wp2_with (first
        | (go_at_call 26; first | ((with_reducible refine (L1.out _).mono ?_); rintro e w' ⟨rfl, rfl⟩) | ((with_reducible refine (L2.out _).mono ?_); rintro e w' ⟨rfl, rfl⟩))
        | (go_at_call 50; refine (withoutSign_c _ (by omega) _).mono ?_; rintro e w' ⟨rfl, rfl⟩))
      go_round
      case rel => exact ⟨j + 1, _, by omega, rfl, by go_num, HAB.out.2.1, HAB.out.2.2, HST⟩
      case measure => simp [intOf]; omega
    · obtain rfl : j = 16 - p := by omega
      go_wp2
      go_ret
      exact ⟨ret_int HM.out, rfl⟩
set_option maxRecDepth 100000 in
set_option maxHeartbeats 4000000 in
theorem specFar_3 (p : Nat) (hp1 : 1 ≤ p) (hp2 : p ≤ 15) (w : World) :
    Calls Try.prog 32 #[.int .i64 3, .int .i64 p] w fun e w' => e = .returned (.int .i64 (farTo 3 p (64 - p))) ∧ w = w' := by
  have hq1 : (1 : Int) ≤ p := by omega
  have hq2 : (p : Int) ≤ 15 := by omega
  have HL := hid (fun n hn w => l8Cell_3 n hn w)
  go_enter Try.func32, Try.ntmps32
  go_wp2_with (go_at_call 39; refine (l1In_c _ _ _ _).mono ?_; rintro e w' ⟨rfl, rfl⟩)
  go_loop [5, 6] (fun m k => ∃ j : Nat, ∃ M : Int, j ≤ 64 - p ∧ m = .int .i64 M ∧ k = .int .i64 j ∧ 0 ≤ M ∧ M ≤ 16 ∧ Hid (M = farTo 3 p j)) (fun _ k => 74 - (intOf k).toNat)
  case atStart => exact ⟨0, 0, by omega, rfl, rfl, by omega, by omega, hid rfl⟩
  case round =>
    obtain ⟨j, M, hj, rfl, rfl, hM0, hM1, HM⟩ := hrel
    by_cases hlt : j + p < 64
    · have hb := hil_lt 3 (by omega) j (by simp only [Nat.reducePow]; omega)
      have hb2 := hil_lt 3 (by omega) (j + p) (by simp only [Nat.reducePow]; omega)
      simp only [Nat.reducePow] at hb hb2
      obtain ⟨hb0, hb1⟩ := hb
      obtain ⟨hb2, hb3⟩ := hb2
      have hab : 0 ≤ apart 3 p j ∧ apart 3 p j ≤ 2 * 8 := apartI_bd (by omega) (by omega) (by omega) (by omega)
      have hm := mx_bd (n := 16) ⟨hM0, hM1⟩ hab
      have HAB := hid (And.intro hab hm)
      have HST := hid (show mx M (apart 3 p j) = farTo 3 p (j + 1) by rw [HM.out]; rfl)
      clear hab hm
      have L1 := hid (HL.out j (by omega))
      have L2 := hid (show ∀ w, Calls Try.prog 47 #[.int .i64 3, .int .i64 ((j : Int) + p)] w fun e w' => e = .returned (.tuple #[.int .i64 ((hil 3 (j + p)).1 : Nat), .int .i64 ((hil 3 (j + p)).2 : Nat)]) ∧ w = w' from HL.out (j + p) (by omega))
      go_wp2_with (first
        | (go_at_call 47; first | ((with_reducible refine (L1.out _).mono ?_); rintro e w' ⟨rfl, rfl⟩) | ((with_reducible refine (L2.out _).mono ?_); rintro e w' ⟨rfl, rfl⟩)))
      go_round
      case rel => exact ⟨j + 1, _, by omega, rfl, by go_num, HAB.out.2.1, HAB.out.2.2, HST⟩
      case measure => simp [intOf]; omega
    · obtain rfl : j = 64 - p := by omega
      go_wp2
      go_ret
      exact ⟨ret_int HM.out, rfl⟩
set_option maxRecDepth 100000 in
set_option maxHeartbeats 4000000 in
theorem implFar_3 (p : Nat) (hp1 : 1 ≤ p) (hp2 : p ≤ 15) (w : World) :
    Calls Try.prog 33 #[.int .i64 3, .int .i64 p] w fun e w' => e = .returned (.int .i64 (farTo 3 p (64 - p))) ∧ w = w' := by
  have hq1 : (1 : Int) ≤ p := by omega
  have hq2 : (p : Int) ≤ 15 := by omega
  have HL := hid (fun n hn w => implCell_3 n hn w)
  go_enter Try.func33, Try.ntmps33
  go_wp2_with fail
  go_loop [5, 6] (fun m k => ∃ j : Nat, ∃ M : Int, j ≤ 64 - p ∧ m = .int .i64 M ∧ k = .int .i64 j ∧ 0 ≤ M ∧ M ≤ 16 ∧ Hid (M = farTo 3 p j)) (fun _ k => 74 - (intOf k).toNat)
  case atStart => exact ⟨0, 0, by omega, rfl, rfl, by omega, by omega, hid rfl⟩
  case round =>
    obtain ⟨j, M, hj, rfl, rfl, hM0, hM1, HM⟩ := hrel
    by_cases hlt : j + p < 64
    · have hb := hil_lt 3 (by omega) j (by simp only [Nat.reducePow]; omega)
      have hb2 := hil_lt 3 (by omega) (j + p) (by simp only [Nat.reducePow]; omega)
      simp only [Nat.reducePow] at hb hb2
      obtain ⟨hb0, hb1⟩ := hb
      obtain ⟨hb2, hb3⟩ := hb2
      have hab : 0 ≤ apart 3 p j ∧ apart 3 p j ≤ 2 * 8 := apartI_bd (by omega) (by omega) (by omega) (by omega)
      have hm := mx_bd (n := 16) ⟨hM0, hM1⟩ hab
      have HAB := hid (And.intro hab hm)
      have HST := hid (show mx M (apart 3 p j) = farTo 3 p (j + 1) by rw [HM.out]; rfl)
      clear hm; obtain ⟨ha0, ha1⟩ := hab; have hsg : mx (((hil 3 (j + p)).1 : Int) - ((hil 3 j).1 : Int)) (-(((hil 3 (j + p)).1 : Int) - ((hil 3 j).1 : Int))) + mx (((hil 3 (j + p)).2 : Int) - ((hil 3 j).2 : Int)) (-(((hil 3 (j + p)).2 : Int) - ((hil 3 j).2 : Int))) = apart 3 p j := apart_sign _ _ _ _
      have L1 := hid (HL.out j (by omega))
      have L2 := hid (show ∀ w, Calls Try.prog 26 #[.int .i64 3, .int .i64 ((j : Int) + p)] w fun e w' => e = .returned (.tuple #[.int .i64 ((hil 3 (j + p)).1 : Nat), .int .i64 ((hil 3 (j + p)).2 : Nat), .bool true]) ∧ w = w' from HL.out (j + p) (by omega))
      go_wp2_with (first
        | (go_at_call 26; first | ((with_reducible refine (L1.out _).mono ?_); rintro e w' ⟨rfl, rfl⟩) | ((with_reducible refine (L2.out _).mono ?_); rintro e w' ⟨rfl, rfl⟩))
        | (go_at_call 50; refine (withoutSign_c _ (by omega) _).mono ?_; rintro e w' ⟨rfl, rfl⟩))
      go_round
      case rel => exact ⟨j + 1, _, by omega, rfl, by go_num, HAB.out.2.1, HAB.out.2.2, HST⟩
      case measure => simp [intOf]; omega
    · obtain rfl : j = 64 - p := by omega
      go_wp2
      go_ret
      exact ⟨ret_int HM.out, rfl⟩
set_option maxRecDepth 100000 in
set_option maxHeartbeats 4000000 in
theorem specFar_4 (p : Nat) (hp1 : 1 ≤ p) (hp2 : p ≤ 15) (w : World) :
    Calls Try.prog 32 #[.int .i64 4, .int .i64 p] w fun e w' => e = .returned (.int .i64 (farTo 4 p (256 - p))) ∧ w = w' := by
  have hq1 : (1 : Int) ≤ p := by omega
  have hq2 : (p : Int) ≤ 15 := by omega
  have HL := hid (fun n hn w => l8Cell_4 n hn w)
  go_enter Try.func32, Try.ntmps32
  go_wp2_with (go_at_call 39; refine (l1In_c _ _ _ _).mono ?_; rintro e w' ⟨rfl, rfl⟩)
  go_loop [5, 6] (fun m k => ∃ j : Nat, ∃ M : Int, j ≤ 256 - p ∧ m = .int .i64 M ∧ k = .int .i64 j ∧ 0 ≤ M ∧ M ≤ 32 ∧ Hid (M = farTo 4 p j)) (fun _ k => 266 - (intOf k).toNat)
  case atStart => exact ⟨0, 0, by omega, rfl, rfl, by omega, by omega, hid rfl⟩
  case round =>
    obtain ⟨j, M, hj, rfl, rfl, hM0, hM1, HM⟩ := hrel
    by_cases hlt : j + p < 256
    · have hb := hil_lt 4 (by omega) j (by simp only [Nat.reducePow]; omega)
      have hb2 := hil_lt 4 (by omega) (j + p) (by simp only [Nat.reducePow]; omega)
      simp only [Nat.reducePow] at hb hb2
      obtain ⟨hb0, hb1⟩ := hb
      obtain ⟨hb2, hb3⟩ := hb2
      have hab : 0 ≤ apart 4 p j ∧ apart 4 p j ≤ 2 * 16 := apartI_bd (by omega) (by omega) (by omega) (by omega)
      have hm := mx_bd (n := 32) ⟨hM0, hM1⟩ hab
      have HAB := hid (And.intro hab hm)
      have HST := hid (show mx M (apart 4 p j) = farTo 4 p (j + 1) by rw [HM.out]; rfl)
      clear hab hm
      have L1 := hid (HL.out j (by omega))
      have L2 := hid (show ∀ w, Calls Try.prog 47 #[.int .i64 4, .int .i64 ((j : Int) + p)] w fun e w' => e = .returned (.tuple #[.int .i64 ((hil 4 (j + p)).1 : Nat), .int .i64 ((hil 4 (j + p)).2 : Nat)]) ∧ w = w' from HL.out (j + p) (by omega))
      go_wp2_with (first
        | (go_at_call 47; first | ((with_reducible refine (L1.out _).mono ?_); rintro e w' ⟨rfl, rfl⟩) | ((with_reducible refine (L2.out _).mono ?_); rintro e w' ⟨rfl, rfl⟩)))
      go_round
      case rel => exact ⟨j + 1, _, by omega, rfl, by go_num, HAB.out.2.1, HAB.out.2.2, HST⟩
      case measure => simp [intOf]; omega
    · obtain rfl : j = 256 - p := by omega
      go_wp2
      go_ret
      exact ⟨ret_int HM.out, rfl⟩
set_option maxRecDepth 100000 in
set_option maxHeartbeats 4000000 in
theorem implFar_4 (p : Nat) (hp1 : 1 ≤ p) (hp2 : p ≤ 15) (w : World) :
    Calls Try.prog 33 #[.int .i64 4, .int .i64 p] w fun e w' => e = .returned (.int .i64 (farTo 4 p (256 - p))) ∧ w = w' := by
  have hq1 : (1 : Int) ≤ p := by omega
  have hq2 : (p : Int) ≤ 15 := by omega
  have HL := hid (fun n hn w => implCell_4 n hn w)
  go_enter Try.func33, Try.ntmps33
  go_wp2_with fail
  go_loop [5, 6] (fun m k => ∃ j : Nat, ∃ M : Int, j ≤ 256 - p ∧ m = .int .i64 M ∧ k = .int .i64 j ∧ 0 ≤ M ∧ M ≤ 32 ∧ Hid (M = farTo 4 p j)) (fun _ k => 266 - (intOf k).toNat)
  case atStart => exact ⟨0, 0, by omega, rfl, rfl, by omega, by omega, hid rfl⟩
  case round =>
    obtain ⟨j, M, hj, rfl, rfl, hM0, hM1, HM⟩ := hrel
    by_cases hlt : j + p < 256
    · have hb := hil_lt 4 (by omega) j (by simp only [Nat.reducePow]; omega)
      have hb2 := hil_lt 4 (by omega) (j + p) (by simp only [Nat.reducePow]; omega)
      simp only [Nat.reducePow] at hb hb2
      obtain ⟨hb0, hb1⟩ := hb
      obtain ⟨hb2, hb3⟩ := hb2
      have hab : 0 ≤ apart 4 p j ∧ apart 4 p j ≤ 2 * 16 := apartI_bd (by omega) (by omega) (by omega) (by omega)
      have hm := mx_bd (n := 32) ⟨hM0, hM1⟩ hab
      have HAB := hid (And.intro hab hm)
      have HST := hid (show mx M (apart 4 p j) = farTo 4 p (j + 1) by rw [HM.out]; rfl)
      clear hm; obtain ⟨ha0, ha1⟩ := hab; have hsg : mx (((hil 4 (j + p)).1 : Int) - ((hil 4 j).1 : Int)) (-(((hil 4 (j + p)).1 : Int) - ((hil 4 j).1 : Int))) + mx (((hil 4 (j + p)).2 : Int) - ((hil 4 j).2 : Int)) (-(((hil 4 (j + p)).2 : Int) - ((hil 4 j).2 : Int))) = apart 4 p j := apart_sign _ _ _ _
      have L1 := hid (HL.out j (by omega))
      have L2 := hid (show ∀ w, Calls Try.prog 26 #[.int .i64 4, .int .i64 ((j : Int) + p)] w fun e w' => e = .returned (.tuple #[.int .i64 ((hil 4 (j + p)).1 : Nat), .int .i64 ((hil 4 (j + p)).2 : Nat), .bool true]) ∧ w = w' from HL.out (j + p) (by omega))
      go_wp2_with (first
        | (go_at_call 26; first | ((with_reducible refine (L1.out _).mono ?_); rintro e w' ⟨rfl, rfl⟩) | ((with_reducible refine (L2.out _).mono ?_); rintro e w' ⟨rfl, rfl⟩))
        | (go_at_call 50; refine (withoutSign_c _ (by omega) _).mono ?_; rintro e w' ⟨rfl, rfl⟩))
      go_round
      case rel => exact ⟨j + 1, _, by omega, rfl, by go_num, HAB.out.2.1, HAB.out.2.2, HST⟩
      case measure => simp [intOf]; omega
    · obtain rfl : j = 256 - p := by omega
      go_wp2
      go_ret
      exact ⟨ret_int HM.out, rfl⟩
end Go.Proofs.Ytbklcalpojkjfaa
