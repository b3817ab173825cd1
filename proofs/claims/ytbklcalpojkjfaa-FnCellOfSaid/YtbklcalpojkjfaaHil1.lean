/- The reference's l8Cell and l8Number, for each number of halves. -/
import Derived.Test.YtbklcalpojkjfaaHilP
import Derived.Test.YtbklcalpojkjfaaL1In
import Derived.Outline
namespace Go.Proofs.Ytbklcalpojkjfaa
open Go.RowKit TW

theorem l8Cell_0 (n : Nat) (w : World) :
    Calls Try.prog 47 #[.int .i64 0, .int .i64 n] w fun e w' => e = .returned (.tuple #[.int .i64 ((hil 0 n).1 : Nat), .int .i64 ((hil 0 n).2 : Nat)]) ∧ w = w' := by
  go_enter Try.func47, Try.ntmps47
  go_wp2
  go_ret2
  exact ⟨rfl, rfl⟩
theorem l8Cell_1 (n : Nat) (hn : n < 4) (w : World) :
    Calls Try.prog 47 #[.int .i64 1, .int .i64 n] w fun e w' => e = .returned (.tuple #[.int .i64 ((hil 1 n).1 : Nat), .int .i64 ((hil 1 n).2 : Nat)]) ∧ w = w' := by
  obtain ⟨q, m, hq, rfl, hm⟩ : ∃ q m : Nat, q < 4 ∧ n = m + 1 * q ∧ m < 1 := ⟨n / 1, n % 1, by omega, by omega, by omega⟩
  clear hn
  have hp := hil_lt 0 (by omega) m (by simpa using hm)
  simp only [Nat.reducePow] at hp
  have HL := hid (fun w => l8Cell_0 m w)
  obtain rfl | rfl | rfl | rfl : q = 0 ∨ q = 1 ∨ q = 2 ∨ q = 3 := by omega
  · have hr : Hid (hil 1 (m + 1 * 0) = ((hil 0 m).2, (hil 0 m).1)) := hid (hil_q 0 _ 0 m 1 rfl (by omega) (by omega))
    have hz : ((m + 1 * 0 : Nat) : Int) = m + 0 := by omega
    
    clear hz
    obtain rfl : m = 0 := by omega
    go_enter Try.func47, Try.ntmps47
    go_wp2_with (go_at_call 47; refine (HL.out _).mono ?_; rintro e w' ⟨rfl, rfl⟩)
    go_ret2
    have hr2 := congrArg Prod.fst hr.out
    have hr3 := congrArg Prod.snd hr.out
    exact ⟨ret_ii (by rw [hr2]; try omega) (by rw [hr3]; try omega), rfl⟩
  · have hr : Hid (hil 1 (m + 1 * 1) = ((hil 0 m).1, (hil 0 m).2 + 1)) := hid (hil_q 0 _ 1 m 1 rfl (by omega) (by omega))
    have hz : ((m + 1 * 1 : Nat) : Int) = m + 1 := by omega
    rw [hz]
    clear hz
    obtain rfl : m = 0 := by omega
    go_enter Try.func47, Try.ntmps47
    go_wp2_with (go_at_call 47; refine (HL.out _).mono ?_; rintro e w' ⟨rfl, rfl⟩)
    go_ret2
    have hr2 := congrArg Prod.fst hr.out
    have hr3 := congrArg Prod.snd hr.out
    exact ⟨ret_ii (by rw [hr2]; try omega) (by rw [hr3]; try omega), rfl⟩
  · have hr : Hid (hil 1 (m + 1 * 2) = ((hil 0 m).1 + 1, (hil 0 m).2 + 1)) := hid (hil_q 0 _ 2 m 1 rfl (by omega) (by omega))
    have hz : ((m + 1 * 2 : Nat) : Int) = m + 2 := by omega
    rw [hz]
    clear hz
    obtain rfl : m = 0 := by omega
    go_enter Try.func47, Try.ntmps47
    go_wp2_with (go_at_call 47; refine (HL.out _).mono ?_; rintro e w' ⟨rfl, rfl⟩)
    go_ret2
    have hr2 := congrArg Prod.fst hr.out
    have hr3 := congrArg Prod.snd hr.out
    exact ⟨ret_ii (by rw [hr2]; try omega) (by rw [hr3]; try omega), rfl⟩
  · have hr : Hid (hil 1 (m + 1 * 3) = (2 * 1 - 1 - (hil 0 m).2, 1 - 1 - (hil 0 m).1)) := hid (hil_q 0 _ 3 m 1 rfl (by omega) (by omega))
    have hz : ((m + 1 * 3 : Nat) : Int) = m + 3 := by omega
    rw [hz]
    clear hz
    obtain rfl : m = 0 := by omega
    go_enter Try.func47, Try.ntmps47
    go_wp2_with (go_at_call 47; refine (HL.out _).mono ?_; rintro e w' ⟨rfl, rfl⟩)
    go_ret2
    have hr2 := congrArg Prod.fst hr.out
    have hr3 := congrArg Prod.snd hr.out
    exact ⟨ret_ii (by rw [hr2]; try omega) (by rw [hr3]; try omega), rfl⟩
theorem l8Cell_2 (n : Nat) (hn : n < 16) (w : World) :
    Calls Try.prog 47 #[.int .i64 2, .int .i64 n] w fun e w' => e = .returned (.tuple #[.int .i64 ((hil 2 n).1 : Nat), .int .i64 ((hil 2 n).2 : Nat)]) ∧ w = w' := by
  obtain ⟨q, m, hq, rfl, hm⟩ : ∃ q m : Nat, q < 4 ∧ n = m + 4 * q ∧ m < 4 := ⟨n / 4, n % 4, by omega, by omega, by omega⟩
  clear hn
  have hp := hil_lt 1 (by omega) m (by simpa using hm)
  simp only [Nat.reducePow] at hp
  have HL := hid (fun w => l8Cell_1 m hm w)
  obtain rfl | rfl | rfl | rfl : q = 0 ∨ q = 1 ∨ q = 2 ∨ q = 3 := by omega
  · have hr : Hid (hil 2 (m + 4 * 0) = ((hil 1 m).2, (hil 1 m).1)) := hid (hil_q 1 _ 0 m 2 rfl (by omega) (by omega))
    have hz : ((m + 4 * 0 : Nat) : Int) = m + 0 := by omega
    
    clear hz
    have e1 : (m : Int) % 4 = m := by omega
    have e2 : (m : Int) / 4 = 0 := by omega
    go_enter Try.func47, Try.ntmps47
    go_wp2_with (go_at_call 47; refine (HL.out _).mono ?_; rintro e w' ⟨rfl, rfl⟩)
    go_ret2
    have hr2 := congrArg Prod.fst hr.out
    have hr3 := congrArg Prod.snd hr.out
    exact ⟨ret_ii (by rw [hr2]; try omega) (by rw [hr3]; try omega), rfl⟩
  · have hr : Hid (hil 2 (m + 4 * 1) = ((hil 1 m).1, (hil 1 m).2 + 2)) := hid (hil_q 1 _ 1 m 2 rfl (by omega) (by omega))
    have hz : ((m + 4 * 1 : Nat) : Int) = m + 4 := by omega
    rw [hz]
    clear hz
    have e1 : ((m : Int) + 4) % 4 = m := by omega
    have e2 : ((m : Int) + 4) / 4 = 1 := by omega
    go_enter Try.func47, Try.ntmps47
    go_wp2_with (go_at_call 47; refine (HL.out _).mono ?_; rintro e w' ⟨rfl, rfl⟩)
    go_ret2
    have hr2 := congrArg Prod.fst hr.out
    have hr3 := congrArg Prod.snd hr.out
    exact ⟨ret_ii (by rw [hr2]; try omega) (by rw [hr3]; try omega), rfl⟩
  · have hr : Hid (hil 2 (m + 4 * 2) = ((hil 1 m).1 + 2, (hil 1 m).2 + 2)) := hid (hil_q 1 _ 2 m 2 rfl (by omega) (by omega))
    have hz : ((m + 4 * 2 : Nat) : Int) = m + 8 := by omega
    rw [hz]
    clear hz
    have e1 : ((m : Int) + 8) % 4 = m := by omega
    have e2 : ((m : Int) + 8) / 4 = 2 := by omega
    go_enter Try.func47, Try.ntmps47
    go_wp2_with (go_at_call 47; refine (HL.out _).mono ?_; rintro e w' ⟨rfl, rfl⟩)
    go_ret2
    have hr2 := congrArg Prod.fst hr.out
    have hr3 := congrArg Prod.snd hr.out
    exact ⟨ret_ii (by rw [hr2]; try omega) (by rw [hr3]; try omega), rfl⟩
  · have hr : Hid (hil 2 (m + 4 * 3) = (2 * 2 - 1 - (hil 1 m).2, 2 - 1 - (hil 1 m).1)) := hid (hil_q 1 _ 3 m 2 rfl (by omega) (by omega))
    have hz : ((m + 4 * 3 : Nat) : Int) = m + 12 := by omega
    rw [hz]
    clear hz
    have e1 : ((m : Int) + 12) % 4 = m := by omega
    have e2 : ((m : Int) + 12) / 4 = 3 := by omega
    go_enter Try.func47, Try.ntmps47
    go_wp2_with (go_at_call 47; refine (HL.out _).mono ?_; rintro e w' ⟨rfl, rfl⟩)
    go_ret2
    have hr2 := congrArg Prod.fst hr.out
    have hr3 := congrArg Prod.snd hr.out
    exact ⟨ret_ii (by rw [hr2]; try omega) (by rw [hr3]; try omega), rfl⟩
theorem l8Cell_3 (n : Nat) (hn : n < 64) (w : World) :
    Calls Try.prog 47 #[.int .i64 3, .int .i64 n] w fun e w' => e = .returned (.tuple #[.int .i64 ((hil 3 n).1 : Nat), .int .i64 ((hil 3 n).2 : Nat)]) ∧ w = w' := by
  obtain ⟨q, m, hq, rfl, hm⟩ : ∃ q m : Nat, q < 4 ∧ n = m + 16 * q ∧ m < 16 := ⟨n / 16, n % 16, by omega, by omega, by omega⟩
  clear hn
  have hp := hil_lt 2 (by omega) m (by simpa using hm)
  simp only [Nat.reducePow] at hp
  have HL := hid (fun w => l8Cell_2 m hm w)
  obtain rfl | rfl | rfl | rfl : q = 0 ∨ q = 1 ∨ q = 2 ∨ q = 3 := by omega
  · have hr : Hid (hil 3 (m + 16 * 0) = ((hil 2 m).2, (hil 2 m).1)) := hid (hil_q 2 _ 0 m 4 rfl (by omega) (by omega))
    have hz : ((m + 16 * 0 : Nat) : Int) = m + 0 := by omega
    
    clear hz
    have e1 : (m : Int) % 16 = m := by omega
    have e2 : (m : Int) / 16 = 0 := by omega
    go_enter Try.func47, Try.ntmps47
    go_wp2_with (go_at_call 47; refine (HL.out _).mono ?_; rintro e w' ⟨rfl, rfl⟩)
    go_ret2
    have hr2 := congrArg Prod.fst hr.out
    have hr3 := congrArg Prod.snd hr.out
    exact ⟨ret_ii (by rw [hr2]; try omega) (by rw [hr3]; try omega), rfl⟩
  · have hr : Hid (hil 3 (m + 16 * 1) = ((hil 2 m).1, (hil 2 m).2 + 4)) := hid (hil_q 2 _ 1 m 4 rfl (by omega) (by omega))
    have hz : ((m + 16 * 1 : Nat) : Int) = m + 16 := by omega
    rw [hz]
    clear hz
    have e1 : ((m : Int) + 16) % 16 = m := by omega
    have e2 : ((m : Int) + 16) / 16 = 1 := by omega
    go_enter Try.func47, Try.ntmps47
    go_wp2_with (go_at_call 47; refine (HL.out _).mono ?_; rintro e w' ⟨rfl, rfl⟩)
    go_ret2
    have hr2 := congrArg Prod.fst hr.out
    have hr3 := congrArg Prod.snd hr.out
    exact ⟨ret_ii (by rw [hr2]; try omega) (by rw [hr3]; try omega), rfl⟩
  · have hr : Hid (hil 3 (m + 16 * 2) = ((hil 2 m).1 + 4, (hil 2 m).2 + 4)) := hid (hil_q 2 _ 2 m 4 rfl (by omega) (by omega))
    have hz : ((m + 16 * 2 : Nat) : Int) = m + 32 := by omega
    rw [hz]
    clear hz
    have e1 : ((m : Int) + 32) % 16 = m := by omega
    have e2 : ((m : Int) + 32) / 16 = 2 := by omega
    go_enter Try.func47, Try.ntmps47
    go_wp2_with (go_at_call 47; refine (HL.out _).mono ?_; rintro e w' ⟨rfl, rfl⟩)
    go_ret2
    have hr2 := congrArg Prod.fst hr.out
    have hr3 := congrArg Prod.snd hr.out
    exact ⟨ret_ii (by rw [hr2]; try omega) (by rw [hr3]; try omega), rfl⟩
  · have hr : Hid (hil 3 (m + 16 * 3) = (2 * 4 - 1 - (hil 2 m).2, 4 - 1 - (hil 2 m).1)) := hid (hil_q 2 _ 3 m 4 rfl (by omega) (by omega))
    have hz : ((m + 16 * 3 : Nat) : Int) = m + 48 := by omega
    rw [hz]
    clear hz
    have e1 : ((m : Int) + 48) % 16 = m := by omega
    have e2 : ((m : Int) + 48) / 16 = 3 := by omega
    go_enter Try.func47, Try.ntmps47
    go_wp2_with (go_at_call 47; refine (HL.out _).mono ?_; rintro e w' ⟨rfl, rfl⟩)
    go_ret2
    have hr2 := congrArg Prod.fst hr.out
    have hr3 := congrArg Prod.snd hr.out
    exact ⟨ret_ii (by rw [hr2]; try omega) (by rw [hr3]; try omega), rfl⟩
theorem l8Cell_4 (n : Nat) (hn : n < 256) (w : World) :
    Calls Try.prog 47 #[.int .i64 4, .int .i64 n] w fun e w' => e = .returned (.tuple #[.int .i64 ((hil 4 n).1 : Nat), .int .i64 ((hil 4 n).2 : Nat)]) ∧ w = w' := by
  obtain ⟨q, m, hq, rfl, hm⟩ : ∃ q m : Nat, q < 4 ∧ n = m + 64 * q ∧ m < 64 := ⟨n / 64, n % 64, by omega, by omega, by omega⟩
  clear hn
  have hp := hil_lt 3 (by omega) m (by simpa using hm)
  simp only [Nat.reducePow] at hp
  have HL := hid (fun w => l8Cell_3 m hm w)
  obtain rfl | rfl | rfl | rfl : q = 0 ∨ q = 1 ∨ q = 2 ∨ q = 3 := by omega
  · have hr : Hid (hil 4 (m + 64 * 0) = ((hil 3 m).2, (hil 3 m).1)) := hid (hil_q 3 _ 0 m 8 rfl (by omega) (by omega))
    have hz : ((m + 64 * 0 : Nat) : Int) = m + 0 := by omega
    
    clear hz
    have e1 : (m : Int) % 64 = m := by omega
    have e2 : (m : Int) / 64 = 0 := by omega
    go_enter Try.func47, Try.ntmps47
    go_wp2_with (go_at_call 47; refine (HL.out _).mono ?_; rintro e w' ⟨rfl, rfl⟩)
    go_ret2
    have hr2 := congrArg Prod.fst hr.out
    have hr3 := congrArg Prod.snd hr.out
    exact ⟨ret_ii (by rw [hr2]; try omega) (by rw [hr3]; try omega), rfl⟩
  · have hr : Hid (hil 4 (m + 64 * 1) = ((hil 3 m).1, (hil 3 m).2 + 8)) := hid (hil_q 3 _ 1 m 8 rfl (by omega) (by omega))
    have hz : ((m + 64 * 1 : Nat) : Int) = m + 64 := by omega
    rw [hz]
    clear hz
    have e1 : ((m : Int) + 64) % 64 = m := by omega
    have e2 : ((m : Int) + 64) / 64 = 1 := by omega
    go_enter Try.func47, Try.ntmps47
    go_wp2_with (go_at_call 47; refine (HL.out _).mono ?_; rintro e w' ⟨rfl, rfl⟩)
    go_ret2
    have hr2 := congrArg Prod.fst hr.out
    have hr3 := congrArg Prod.snd hr.out
    exact ⟨ret_ii (by rw [hr2]; try omega) (by rw [hr3]; try omega), rfl⟩
  · have hr : Hid (hil 4 (m + 64 * 2) = ((hil 3 m).1 + 8, (hil 3 m).2 + 8)) := hid (hil_q 3 _ 2 m 8 rfl (by omega) (by omega))
    have hz : ((m + 64 * 2 : Nat) : Int) = m + 128 := by omega
    rw [hz]
    clear hz
    have e1 : ((m : Int) + 128) % 64 = m := by omega
    have e2 : ((m : Int) + 128) / 64 = 2 := by omega
    go_enter Try.func47, Try.ntmps47
    go_wp2_with (go_at_call 47; refine (HL.out _).mono ?_; rintro e w' ⟨rfl, rfl⟩)
    go_ret2
    have hr2 := congrArg Prod.fst hr.out
    have hr3 := congrArg Prod.snd hr.out
    exact ⟨ret_ii (by rw [hr2]; try omega) (by rw [hr3]; try omega), rfl⟩
  · have hr : Hid (hil 4 (m + 64 * 3) = (2 * 8 - 1 - (hil 3 m).2, 8 - 1 - (hil 3 m).1)) := hid (hil_q 3 _ 3 m 8 rfl (by omega) (by omega))
    have hz : ((m + 64 * 3 : Nat) : Int) = m + 192 := by omega
    rw [hz]
    clear hz
    have e1 : ((m : Int) + 192) % 64 = m := by omega
    have e2 : ((m : Int) + 192) / 64 = 3 := by omega
    go_enter Try.func47, Try.ntmps47
    go_wp2_with (go_at_call 47; refine (HL.out _).mono ?_; rintro e w' ⟨rfl, rfl⟩)
    go_ret2
    have hr2 := congrArg Prod.fst hr.out
    have hr3 := congrArg Prod.snd hr.out
    exact ⟨ret_ii (by rw [hr2]; try omega) (by rw [hr3]; try omega), rfl⟩
theorem l8Cell_5 (n : Nat) (hn : n < 1024) (w : World) :
    Calls Try.prog 47 #[.int .i64 5, .int .i64 n] w fun e w' => e = .returned (.tuple #[.int .i64 ((hil 5 n).1 : Nat), .int .i64 ((hil 5 n).2 : Nat)]) ∧ w = w' := by
  obtain ⟨q, m, hq, rfl, hm⟩ : ∃ q m : Nat, q < 4 ∧ n = m + 256 * q ∧ m < 256 := ⟨n / 256, n % 256, by omega, by omega, by omega⟩
  clear hn
  have hp := hil_lt 4 (by omega) m (by simpa using hm)
  simp only [Nat.reducePow] at hp
  have HL := hid (fun w => l8Cell_4 m hm w)
  obtain rfl | rfl | rfl | rfl : q = 0 ∨ q = 1 ∨ q = 2 ∨ q = 3 := by omega
  · have hr : Hid (hil 5 (m + 256 * 0) = ((hil 4 m).2, (hil 4 m).1)) := hid (hil_q 4 _ 0 m 16 rfl (by omega) (by omega))
    have hz : ((m + 256 * 0 : Nat) : Int) = m + 0 := by omega
    
    clear hz
    have e1 : (m : Int) % 256 = m := by omega
    have e2 : (m : Int) / 256 = 0 := by omega
    go_enter Try.func47, Try.ntmps47
    go_wp2_with (go_at_call 47; refine (HL.out _).mono ?_; rintro e w' ⟨rfl, rfl⟩)
    go_ret2
    have hr2 := congrArg Prod.fst hr.out
    have hr3 := congrArg Prod.snd hr.out
    exact ⟨ret_ii (by rw [hr2]; try omega) (by rw [hr3]; try omega), rfl⟩
  · have hr : Hid (hil 5 (m + 256 * 1) = ((hil 4 m).1, (hil 4 m).2 + 16)) := hid (hil_q 4 _ 1 m 16 rfl (by omega) (by omega))
    have hz : ((m + 256 * 1 : Nat) : Int) = m + 256 := by omega
    rw [hz]
    clear hz
    have e1 : ((m : Int) + 256) % 256 = m := by omega
    have e2 : ((m : Int) + 256) / 256 = 1 := by omega
    go_enter Try.func47, Try.ntmps47
    go_wp2_with (go_at_call 47; refine (HL.out _).mono ?_; rintro e w' ⟨rfl, rfl⟩)
    go_ret2
    have hr2 := congrArg Prod.fst hr.out
    have hr3 := congrArg Prod.snd hr.out
    exact ⟨ret_ii (by rw [hr2]; try omega) (by rw [hr3]; try omega), rfl⟩
  · have hr : Hid (hil 5 (m + 256 * 2) = ((hil 4 m).1 + 16, (hil 4 m).2 + 16)) := hid (hil_q 4 _ 2 m 16 rfl (by omega) (by omega))
    have hz : ((m + 256 * 2 : Nat) : Int) = m + 512 := by omega
    rw [hz]
    clear hz
    have e1 : ((m : Int) + 512) % 256 = m := by omega
    have e2 : ((m : Int) + 512) / 256 = 2 := by omega
    go_enter Try.func47, Try.ntmps47
    go_wp2_with (go_at_call 47; refine (HL.out _).mono ?_; rintro e w' ⟨rfl, rfl⟩)
    go_ret2
    have hr2 := congrArg Prod.fst hr.out
    have hr3 := congrArg Prod.snd hr.out
    exact ⟨ret_ii (by rw [hr2]; try omega) (by rw [hr3]; try omega), rfl⟩
  · have hr : Hid (hil 5 (m + 256 * 3) = (2 * 16 - 1 - (hil 4 m).2, 16 - 1 - (hil 4 m).1)) := hid (hil_q 4 _ 3 m 16 rfl (by omega) (by omega))
    have hz : ((m + 256 * 3 : Nat) : Int) = m + 768 := by omega
    rw [hz]
    clear hz
    have e1 : ((m : Int) + 768) % 256 = m := by omega
    have e2 : ((m : Int) + 768) / 256 = 3 := by omega
    go_enter Try.func47, Try.ntmps47
    go_wp2_with (go_at_call 47; refine (HL.out _).mono ?_; rintro e w' ⟨rfl, rfl⟩)
    go_ret2
    have hr2 := congrArg Prod.fst hr.out
    have hr3 := congrArg Prod.snd hr.out
    exact ⟨ret_ii (by rw [hr2]; try omega) (by rw [hr3]; try omega), rfl⟩
theorem l8Number_0 (x y : Nat) (w : World) :
    Calls Try.prog 45 #[.int .i64 0, .int .i64 x, .int .i64 y] w fun e w' => e = .returned (.int .i64 (num 0 x y : Nat)) ∧ w = w' := by
  go_enter Try.func45, Try.ntmps45
  go_wp2
  go_ret
  exact ⟨rfl, rfl⟩
theorem l8Number_1 (x y : Nat) (hx : x < 2) (hy : y < 2) (w : World) :
    Calls Try.prog 45 #[.int .i64 1, .int .i64 x, .int .i64 y] w fun e w' => e = .returned (.int .i64 (num 1 x y : Nat)) ∧ w = w' := by
  have HL := hid (fun w => l8Number_0 0 0 w)
  have hnum : num 0 0 0 = 0 := rfl
  obtain rfl | rfl : x = 0 ∨ x = 1 := by omega
  all_goals
    obtain rfl | rfl : y = 0 ∨ y = 1 := by omega
  all_goals
    go_enter Try.func45, Try.ntmps45
    go_wp2_with (go_at_call 45; refine (HL.out _).mono ?_; rintro e w' ⟨rfl, rfl⟩)
    go_ret
    exact ⟨rfl, rfl⟩
theorem l8Number_2 (x y : Nat) (hx : x < 4) (hy : y < 4) (w : World) :
    Calls Try.prog 45 #[.int .i64 2, .int .i64 x, .int .i64 y] w fun e w' => e = .returned (.int .i64 (num 2 x y : Nat)) ∧ w = w' := by
  by_cases h1 : x < 2 <;> by_cases h2 : y < 2
  · have hr : Hid (num 2 x y = 0 + num 1 y x) := by
      have hu : num 2 x y = if x < 2 then (if y < 2 then num 1 y x else 2 * 2 + num 1 x (y - 2)) else if 2 ≤ y then 2 * 2 * 2 + num 1 (x - 2) (y - 2) else 3 * 2 * 2 + num 1 (2 - 1 - y) (2 * 2 - 1 - x) := rfl
      rw [if_pos h1, if_pos h2] at hu
      
      
      
      exact hid (by omega)
    have hp := (hil_num 1 (by omega) y (by simp only [Nat.reducePow]; omega) x (by simp only [Nat.reducePow]; omega)).1
    simp only [Nat.reducePow] at hp
    have hl := fun w => l8Number_1 y x (by omega) (by omega) w
    have z1 : ((y : Nat) : Int) = (y:Int) := by omega
    have z2 : ((x : Nat) : Int) = (x:Int) := by omega
    rw [z1, z2] at hl
    have HL := hid hl
    clear hl z1 z2
    go_enter Try.func45, Try.ntmps45
    go_wp2_with (go_at_call 45; refine (HL.out _).mono ?_; rintro e w' ⟨rfl, rfl⟩)
    go_ret
    exact ⟨ret_int (by rw [hr.out]; omega), rfl⟩
  · have hr : Hid (num 2 x y = 4 + num 1 x (y - 2)) := by
      have hu : num 2 x y = if x < 2 then (if y < 2 then num 1 y x else 2 * 2 + num 1 x (y - 2)) else if 2 ≤ y then 2 * 2 * 2 + num 1 (x - 2) (y - 2) else 3 * 2 * 2 + num 1 (2 - 1 - y) (2 * 2 - 1 - x) := rfl
      rw [if_pos h1, if_neg h2] at hu
      
      
      
      exact hid (by omega)
    have hp := (hil_num 1 (by omega) x (by simp only [Nat.reducePow]; omega) (y - 2) (by simp only [Nat.reducePow]; omega)).1
    simp only [Nat.reducePow] at hp
    have hl := fun w => l8Number_1 x (y - 2) (by omega) (by omega) w
    have z1 : ((x : Nat) : Int) = (x:Int) := by omega
    have z2 : (((y - 2) : Nat) : Int) = ((y:Int) - 2) := by omega
    rw [z1, z2] at hl
    have HL := hid hl
    clear hl z1 z2
    go_enter Try.func45, Try.ntmps45
    go_wp2_with (go_at_call 45; refine (HL.out _).mono ?_; rintro e w' ⟨rfl, rfl⟩)
    go_ret
    exact ⟨ret_int (by rw [hr.out]; omega), rfl⟩
  · have hr : Hid (num 2 x y = 12 + num 1 (1 - y) (3 - x)) := by
      have hu : num 2 x y = if x < 2 then (if y < 2 then num 1 y x else 2 * 2 + num 1 x (y - 2)) else if 2 ≤ y then 2 * 2 * 2 + num 1 (x - 2) (y - 2) else 3 * 2 * 2 + num 1 (2 - 1 - y) (2 * 2 - 1 - x) := rfl
      rw [if_neg h1, if_neg (show ¬ 2 ≤ y by omega)] at hu
      have a1 : 2 - 1 - y = 1 - y := by omega
      have a2 : 2 * 2 - 1 - x = 3 - x := by omega
      rw [a1, a2] at hu
      exact hid (by omega)
    have hp := (hil_num 1 (by omega) (1 - y) (by simp only [Nat.reducePow]; omega) (3 - x) (by simp only [Nat.reducePow]; omega)).1
    simp only [Nat.reducePow] at hp
    have hl := fun w => l8Number_1 (1 - y) (3 - x) (by omega) (by omega) w
    have z1 : (((1 - y) : Nat) : Int) = (1 - (y:Int)) := by omega
    have z2 : (((3 - x) : Nat) : Int) = (3 - (x:Int)) := by omega
    rw [z1, z2] at hl
    have HL := hid hl
    clear hl z1 z2
    go_enter Try.func45, Try.ntmps45
    go_wp2_with (go_at_call 45; refine (HL.out _).mono ?_; rintro e w' ⟨rfl, rfl⟩)
    go_ret
    exact ⟨ret_int (by rw [hr.out]; omega), rfl⟩
  · have hr : Hid (num 2 x y = 8 + num 1 (x - 2) (y - 2)) := by
      have hu : num 2 x y = if x < 2 then (if y < 2 then num 1 y x else 2 * 2 + num 1 x (y - 2)) else if 2 ≤ y then 2 * 2 * 2 + num 1 (x - 2) (y - 2) else 3 * 2 * 2 + num 1 (2 - 1 - y) (2 * 2 - 1 - x) := rfl
      rw [if_neg h1, if_pos (show 2 ≤ y by omega)] at hu
      
      
      
      exact hid (by omega)
    have hp := (hil_num 1 (by omega) (x - 2) (by simp only [Nat.reducePow]; omega) (y - 2) (by simp only [Nat.reducePow]; omega)).1
    simp only [Nat.reducePow] at hp
    have hl := fun w => l8Number_1 (x - 2) (y - 2) (by omega) (by omega) w
    have z1 : (((x - 2) : Nat) : Int) = ((x:Int) - 2) := by omega
    have z2 : (((y - 2) : Nat) : Int) = ((y:Int) - 2) := by omega
    rw [z1, z2] at hl
    have HL := hid hl
    clear hl z1 z2
    go_enter Try.func45, Try.ntmps45
    go_wp2_with (go_at_call 45; refine (HL.out _).mono ?_; rintro e w' ⟨rfl, rfl⟩)
    go_ret
    exact ⟨ret_int (by rw [hr.out]; omega), rfl⟩
theorem l8Number_3 (x y : Nat) (hx : x < 8) (hy : y < 8) (w : World) :
    Calls Try.prog 45 #[.int .i64 3, .int .i64 x, .int .i64 y] w fun e w' => e = .returned (.int .i64 (num 3 x y : Nat)) ∧ w = w' := by
  by_cases h1 : x < 4 <;> by_cases h2 : y < 4
  · have hr : Hid (num 3 x y = 0 + num 2 y x) := by
      have hu : num 3 x y = if x < 4 then (if y < 4 then num 2 y x else 4 * 4 + num 2 x (y - 4)) else if 4 ≤ y then 2 * 4 * 4 + num 2 (x - 4) (y - 4) else 3 * 4 * 4 + num 2 (4 - 1 - y) (2 * 4 - 1 - x) := rfl
      rw [if_pos h1, if_pos h2] at hu
      
      
      
      exact hid (by omega)
    have hp := (hil_num 2 (by omega) y (by simp only [Nat.reducePow]; omega) x (by simp only [Nat.reducePow]; omega)).1
    simp only [Nat.reducePow] at hp
    have hl := fun w => l8Number_2 y x (by omega) (by omega) w
    have z1 : ((y : Nat) : Int) = (y:Int) := by omega
    have z2 : ((x : Nat) : Int) = (x:Int) := by omega
    rw [z1, z2] at hl
    have HL := hid hl
    clear hl z1 z2
    go_enter Try.func45, Try.ntmps45
    go_wp2_with (go_at_call 45; refine (HL.out _).mono ?_; rintro e w' ⟨rfl, rfl⟩)
    go_ret
    exact ⟨ret_int (by rw [hr.out]; omega), rfl⟩
  · have hr : Hid (num 3 x y = 16 + num 2 x (y - 4)) := by
      have hu : num 3 x y = if x < 4 then (if y < 4 then num 2 y x else 4 * 4 + num 2 x (y - 4)) else if 4 ≤ y then 2 * 4 * 4 + num 2 (x - 4) (y - 4) else 3 * 4 * 4 + num 2 (4 - 1 - y) (2 * 4 - 1 - x) := rfl
      rw [if_pos h1, if_neg h2] at hu
      
      
      
      exact hid (by omega)
    have hp := (hil_num 2 (by omega) x (by simp only [Nat.reducePow]; omega) (y - 4) (by simp only [Nat.reducePow]; omega)).1
    simp only [Nat.reducePow] at hp
    have hl := fun w => l8Number_2 x (y - 4) (by omega) (by omega) w
    have z1 : ((x : Nat) : Int) = (x:Int) := by omega
    have z2 : (((y - 4) : Nat) : Int) = ((y:Int) - 4) := by omega
    rw [z1, z2] at hl
    have HL := hid hl
    clear hl z1 z2
    go_enter Try.func45, Try.ntmps45
    go_wp2_with (go_at_call 45; refine (HL.out _).mono ?_; rintro e w' ⟨rfl, rfl⟩)
    go_ret
    exact ⟨ret_int (by rw [hr.out]; omega), rfl⟩
  · have hr : Hid (num 3 x y = 48 + num 2 (3 - y) (7 - x)) := by
      have hu : num 3 x y = if x < 4 then (if y < 4 then num 2 y x else 4 * 4 + num 2 x (y - 4)) else if 4 ≤ y then 2 * 4 * 4 + num 2 (x - 4) (y - 4) else 3 * 4 * 4 + num 2 (4 - 1 - y) (2 * 4 - 1 - x) := rfl
      rw [if_neg h1, if_neg (show ¬ 4 ≤ y by omega)] at hu
      have a1 : 4 - 1 - y = 3 - y := by omega
      have a2 : 2 * 4 - 1 - x = 7 - x := by omega
      rw [a1, a2] at hu
      exact hid (by omega)
    have hp := (hil_num 2 (by omega) (3 - y) (by simp only [Nat.reducePow]; omega) (7 - x) (by simp only [Nat.reducePow]; omega)).1
    simp only [Nat.reducePow] at hp
    have hl := fun w => l8Number_2 (3 - y) (7 - x) (by omega) (by omega) w
    have z1 : (((3 - y) : Nat) : Int) = (3 - (y:Int)) := by omega
    have z2 : (((7 - x) : Nat) : Int) = (7 - (x:Int)) := by omega
    rw [z1, z2] at hl
    have HL := hid hl
    clear hl z1 z2
    go_enter Try.func45, Try.ntmps45
    go_wp2_with (go_at_call 45; refine (HL.out _).mono ?_; rintro e w' ⟨rfl, rfl⟩)
    go_ret
    exact ⟨ret_int (by rw [hr.out]; omega), rfl⟩
  · have hr : Hid (num 3 x y = 32 + num 2 (x - 4) (y - 4)) := by
      have hu : num 3 x y = if x < 4 then (if y < 4 then num 2 y x else 4 * 4 + num 2 x (y - 4)) else if 4 ≤ y then 2 * 4 * 4 + num 2 (x - 4) (y - 4) else 3 * 4 * 4 + num 2 (4 - 1 - y) (2 * 4 - 1 - x) := rfl
      rw [if_neg h1, if_pos (show 4 ≤ y by omega)] at hu
      
      
      
      exact hid (by omega)
    have hp := (hil_num 2 (by omega) (x - 4) (by simp only [Nat.reducePow]; omega) (y - 4) (by simp only [Nat.reducePow]; omega)).1
    simp only [Nat.reducePow] at hp
    have hl := fun w => l8Number_2 (x - 4) (y - 4) (by omega) (by omega) w
    have z1 : (((x - 4) : Nat) : Int) = ((x:Int) - 4) := by omega
    have z2 : (((y - 4) : Nat) : Int) = ((y:Int) - 4) := by omega
    rw [z1, z2] at hl
    have HL := hid hl
    clear hl z1 z2
    go_enter Try.func45, Try.ntmps45
    go_wp2_with (go_at_call 45; refine (HL.out _).mono ?_; rintro e w' ⟨rfl, rfl⟩)
    go_ret
    exact ⟨ret_int (by rw [hr.out]; omega), rfl⟩
theorem l8Number_4 (x y : Nat) (hx : x < 16) (hy : y < 16) (w : World) :
    Calls Try.prog 45 #[.int .i64 4, .int .i64 x, .int .i64 y] w fun e w' => e = .returned (.int .i64 (num 4 x y : Nat)) ∧ w = w' := by
  by_cases h1 : x < 8 <;> by_cases h2 : y < 8
  · have hr : Hid (num 4 x y = 0 + num 3 y x) := by
      have hu : num 4 x y = if x < 8 then (if y < 8 then num 3 y x else 8 * 8 + num 3 x (y - 8)) else if 8 ≤ y then 2 * 8 * 8 + num 3 (x - 8) (y - 8) else 3 * 8 * 8 + num 3 (8 - 1 - y) (2 * 8 - 1 - x) := rfl
      rw [if_pos h1, if_pos h2] at hu
      
      
      
      exact hid (by omega)
    have hp := (hil_num 3 (by omega) y (by simp only [Nat.reducePow]; omega) x (by simp only [Nat.reducePow]; omega)).1
    simp only [Nat.reducePow] at hp
    have hl := fun w => l8Number_3 y x (by omega) (by omega) w
    have z1 : ((y : Nat) : Int) = (y:Int) := by omega
    have z2 : ((x : Nat) : Int) = (x:Int) := by omega
    rw [z1, z2] at hl
    have HL := hid hl
    clear hl z1 z2
    go_enter Try.func45, Try.ntmps45
    go_wp2_with (go_at_call 45; refine (HL.out _).mono ?_; rintro e w' ⟨rfl, rfl⟩)
    go_ret
    exact ⟨ret_int (by rw [hr.out]; omega), rfl⟩
  · have hr : Hid (num 4 x y = 64 + num 3 x (y - 8)) := by
      have hu : num 4 x y = if x < 8 then (if y < 8 then num 3 y x else 8 * 8 + num 3 x (y - 8)) else if 8 ≤ y then 2 * 8 * 8 + num 3 (x - 8) (y - 8) else 3 * 8 * 8 + num 3 (8 - 1 - y) (2 * 8 - 1 - x) := rfl
      rw [if_pos h1, if_neg h2] at hu
      
      
      
      exact hid (by omega)
    have hp := (hil_num 3 (by omega) x (by simp only [Nat.reducePow]; omega) (y - 8) (by simp only [Nat.reducePow]; omega)).1
    simp only [Nat.reducePow] at hp
    have hl := fun w => l8Number_3 x (y - 8) (by omega) (by omega) w
    have z1 : ((x : Nat) : Int) = (x:Int) := by omega
    have z2 : (((y - 8) : Nat) : Int) = ((y:Int) - 8) := by omega
    rw [z1, z2] at hl
    have HL := hid hl
    clear hl z1 z2
    go_enter Try.func45, Try.ntmps45
    go_wp2_with (go_at_call 45; refine (HL.out _).mono ?_; rintro e w' ⟨rfl, rfl⟩)
    go_ret
    exact ⟨ret_int (by rw [hr.out]; omega), rfl⟩
  · have hr : Hid (num 4 x y = 192 + num 3 (7 - y) (15 - x)) := by
      have hu : num 4 x y = if x < 8 then (if y < 8 then num 3 y x else 8 * 8 + num 3 x (y - 8)) else if 8 ≤ y then 2 * 8 * 8 + num 3 (x - 8) (y - 8) else 3 * 8 * 8 + num 3 (8 - 1 - y) (2 * 8 - 1 - x) := rfl
      rw [if_neg h1, if_neg (show ¬ 8 ≤ y by omega)] at hu
      have a1 : 8 - 1 - y = 7 - y := by omega
      have a2 : 2 * 8 - 1 - x = 15 - x := by omega
      rw [a1, a2] at hu
      exact hid (by omega)
    have hp := (hil_num 3 (by omega) (7 - y) (by simp only [Nat.reducePow]; omega) (15 - x) (by simp only [Nat.reducePow]; omega)).1
    simp only [Nat.reducePow] at hp
    have hl := fun w => l8Number_3 (7 - y) (15 - x) (by omega) (by omega) w
    have z1 : (((7 - y) : Nat) : Int) = (7 - (y:Int)) := by omega
    have z2 : (((15 - x) : Nat) : Int) = (15 - (x:Int)) := by omega
    rw [z1, z2] at hl
    have HL := hid hl
    clear hl z1 z2
    go_enter Try.func45, Try.ntmps45
    go_wp2_with (go_at_call 45; refine (HL.out _).mono ?_; rintro e w' ⟨rfl, rfl⟩)
    go_ret
    exact ⟨ret_int (by rw [hr.out]; omega), rfl⟩
  · have hr : Hid (num 4 x y = 128 + num 3 (x - 8) (y - 8)) := by
      have hu : num 4 x y = if x < 8 then (if y < 8 then num 3 y x else 8 * 8 + num 3 x (y - 8)) else if 8 ≤ y then 2 * 8 * 8 + num 3 (x - 8) (y - 8) else 3 * 8 * 8 + num 3 (8 - 1 - y) (2 * 8 - 1 - x) := rfl
      rw [if_neg h1, if_pos (show 8 ≤ y by omega)] at hu
      
      
      
      exact hid (by omega)
    have hp := (hil_num 3 (by omega) (x - 8) (by simp only [Nat.reducePow]; omega) (y - 8) (by simp only [Nat.reducePow]; omega)).1
    simp only [Nat.reducePow] at hp
    have hl := fun w => l8Number_3 (x - 8) (y - 8) (by omega) (by omega) w
    have z1 : (((x - 8) : Nat) : Int) = ((x:Int) - 8) := by omega
    have z2 : (((y - 8) : Nat) : Int) = ((y:Int) - 8) := by omega
    rw [z1, z2] at hl
    have HL := hid hl
    clear hl z1 z2
    go_enter Try.func45, Try.ntmps45
    go_wp2_with (go_at_call 45; refine (HL.out _).mono ?_; rintro e w' ⟨rfl, rfl⟩)
    go_ret
    exact ⟨ret_int (by rw [hr.out]; omega), rfl⟩
theorem l8Number_5 (x y : Nat) (hx : x < 32) (hy : y < 32) (w : World) :
    Calls Try.prog 45 #[.int .i64 5, .int .i64 x, .int .i64 y] w fun e w' => e = .returned (.int .i64 (num 5 x y : Nat)) ∧ w = w' := by
  by_cases h1 : x < 16 <;> by_cases h2 : y < 16
  · have hr : Hid (num 5 x y = 0 + num 4 y x) := by
      have hu : num 5 x y = if x < 16 then (if y < 16 then num 4 y x else 16 * 16 + num 4 x (y - 16)) else if 16 ≤ y then 2 * 16 * 16 + num 4 (x - 16) (y - 16) else 3 * 16 * 16 + num 4 (16 - 1 - y) (2 * 16 - 1 - x) := rfl
      rw [if_pos h1, if_pos h2] at hu
      
      
      
      exact hid (by omega)
    have hp := (hil_num 4 (by omega) y (by simp only [Nat.reducePow]; omega) x (by simp only [Nat.reducePow]; omega)).1
    simp only [Nat.reducePow] at hp
    have hl := fun w => l8Number_4 y x (by omega) (by omega) w
    have z1 : ((y : Nat) : Int) = (y:Int) := by omega
    have z2 : ((x : Nat) : Int) = (x:Int) := by omega
    rw [z1, z2] at hl
    have HL := hid hl
    clear hl z1 z2
    go_enter Try.func45, Try.ntmps45
    go_wp2_with (go_at_call 45; refine (HL.out _).mono ?_; rintro e w' ⟨rfl, rfl⟩)
    go_ret
    exact ⟨ret_int (by rw [hr.out]; omega), rfl⟩
  · have hr : Hid (num 5 x y = 256 + num 4 x (y - 16)) := by
      have hu : num 5 x y = if x < 16 then (if y < 16 then num 4 y x else 16 * 16 + num 4 x (y - 16)) else if 16 ≤ y then 2 * 16 * 16 + num 4 (x - 16) (y - 16) else 3 * 16 * 16 + num 4 (16 - 1 - y) (2 * 16 - 1 - x) := rfl
      rw [if_pos h1, if_neg h2] at hu
      
      
      
      exact hid (by omega)
    have hp := (hil_num 4 (by omega) x (by simp only [Nat.reducePow]; omega) (y - 16) (by simp only [Nat.reducePow]; omega)).1
    simp only [Nat.reducePow] at hp
    have hl := fun w => l8Number_4 x (y - 16) (by omega) (by omega) w
    have z1 : ((x : Nat) : Int) = (x:Int) := by omega
    have z2 : (((y - 16) : Nat) : Int) = ((y:Int) - 16) := by omega
    rw [z1, z2] at hl
    have HL := hid hl
    clear hl z1 z2
    go_enter Try.func45, Try.ntmps45
    go_wp2_with (go_at_call 45; refine (HL.out _).mono ?_; rintro e w' ⟨rfl, rfl⟩)
    go_ret
    exact ⟨ret_int (by rw [hr.out]; omega), rfl⟩
  · have hr : Hid (num 5 x y = 768 + num 4 (15 - y) (31 - x)) := by
      have hu : num 5 x y = if x < 16 then (if y < 16 then num 4 y x else 16 * 16 + num 4 x (y - 16)) else if 16 ≤ y then 2 * 16 * 16 + num 4 (x - 16) (y - 16) else 3 * 16 * 16 + num 4 (16 - 1 - y) (2 * 16 - 1 - x) := rfl
      rw [if_neg h1, if_neg (show ¬ 16 ≤ y by omega)] at hu
      have a1 : 16 - 1 - y = 15 - y := by omega
      have a2 : 2 * 16 - 1 - x = 31 - x := by omega
      rw [a1, a2] at hu
      exact hid (by omega)
    have hp := (hil_num 4 (by omega) (15 - y) (by simp only [Nat.reducePow]; omega) (31 - x) (by simp only [Nat.reducePow]; omega)).1
    simp only [Nat.reducePow] at hp
    have hl := fun w => l8Number_4 (15 - y) (31 - x) (by omega) (by omega) w
    have z1 : (((15 - y) : Nat) : Int) = (15 - (y:Int)) := by omega
    have z2 : (((31 - x) : Nat) : Int) = (31 - (x:Int)) := by omega
    rw [z1, z2] at hl
    have HL := hid hl
    clear hl z1 z2
    go_enter Try.func45, Try.ntmps45
    go_wp2_with (go_at_call 45; refine (HL.out _).mono ?_; rintro e w' ⟨rfl, rfl⟩)
    go_ret
    exact ⟨ret_int (by rw [hr.out]; omega), rfl⟩
  · have hr : Hid (num 5 x y = 512 + num 4 (x - 16) (y - 16)) := by
      have hu : num 5 x y = if x < 16 then (if y < 16 then num 4 y x else 16 * 16 + num 4 x (y - 16)) else if 16 ≤ y then 2 * 16 * 16 + num 4 (x - 16) (y - 16) else 3 * 16 * 16 + num 4 (16 - 1 - y) (2 * 16 - 1 - x) := rfl
      rw [if_neg h1, if_pos (show 16 ≤ y by omega)] at hu
      
      
      
      exact hid (by omega)
    have hp := (hil_num 4 (by omega) (x - 16) (by simp only [Nat.reducePow]; omega) (y - 16) (by simp only [Nat.reducePow]; omega)).1
    simp only [Nat.reducePow] at hp
    have hl := fun w => l8Number_4 (x - 16) (y - 16) (by omega) (by omega) w
    have z1 : (((x - 16) : Nat) : Int) = ((x:Int) - 16) := by omega
    have z2 : (((y - 16) : Nat) : Int) = ((y:Int) - 16) := by omega
    rw [z1, z2] at hl
    have HL := hid hl
    clear hl z1 z2
    go_enter Try.func45, Try.ntmps45
    go_wp2_with (go_at_call 45; refine (HL.out _).mono ?_; rintro e w' ⟨rfl, rfl⟩)
    go_ret
    exact ⟨ret_int (by rw [hr.out]; omega), rfl⟩
end Go.Proofs.Ytbklcalpojkjfaa
