/- The reference's l8Cell and l8Number, for each number of halves. -/
import Derived.Test.YtbklcalpojkjfaaDoorHilP
import Derived.Test.YtbklcalpojkjfaaDoorL1In
import Derived.Outline
namespace Go.Proofs.YtbklcalpojkjfaaDoor
open Go.RowKit TW

theorem l8Cell_0 (n : Nat) (w : World) :
    Calls Tryd.prog 11 #[.int .i64 0, .int .i64 n] w fun e w' => e = .returned (.tuple #[.int .i64 ((hil 0 n).1 : Nat), .int .i64 ((hil 0 n).2 : Nat)]) ∧ w = w' := by
  go_enter Tryd.func11, Tryd.ntmps11
  go_wp2
  go_ret2
  exact ⟨rfl, rfl⟩
theorem l8Cell_1 (n : Nat) (hn : n < 4) (w : World) :
    Calls Tryd.prog 11 #[.int .i64 1, .int .i64 n] w fun e w' => e = .returned (.tuple #[.int .i64 ((hil 1 n).1 : Nat), .int .i64 ((hil 1 n).2 : Nat)]) ∧ w = w' := by
  obtain ⟨q, m, hq, rfl, hm⟩ : ∃ q m : Nat, q < 4 ∧ n = m + 1 * q ∧ m < 1 := ⟨n / 1, n % 1, by omega, by omega, by omega⟩
  clear hn
  have hp := hil_lt 0 (by omega) m (by simpa using hm)
  simp only [Nat.reducePow] at hp
  have HL := hid (fun w => l8Cell_0 m w)
  obtain rfl | rfl | rfl | rfl : q = 0 ∨ q = 1 ∨ q = 2 ∨ q = 3 := by omega
  · have hr : Hid (hil 1 (m + 1 * 0) = ((hil 0 m).2, (hil 0 m).1)) := hid (hil_q 0 _ 0 m 1 rfl (by omega) (by omega))
    have hz : ((m + 1 * 0 : Nat) : Int) = m + 0 := by omega
    
    clear hz
    obtain rfl : m = 0 := by omega
    go_enter Tryd.func11, Tryd.ntmps11
    go_wp2_with (go_at_call 11; refine (HL.out _).mono ?_; rintro e w' ⟨rfl, rfl⟩)
    go_ret2
    have hr2 := congrArg Prod.fst hr.out
    have hr3 := congrArg Prod.snd hr.out
    exact ⟨ret_ii (by rw [hr2]; try omega) (by rw [hr3]; try omega), rfl⟩
  · have hr : Hid (hil 1 (m + 1 * 1) = ((hil 0 m).1, (hil 0 m).2 + 1)) := hid (hil_q 0 _ 1 m 1 rfl (by omega) (by omega))
    have hz : ((m + 1 * 1 : Nat) : Int) = m + 1 := by omega
    rw [hz]
    clear hz
    obtain rfl : m = 0 := by omega
    go_enter Tryd.func11, Tryd.ntmps11
    go_wp2_with (go_at_call 11; refine (HL.out _).mono ?_; rintro e w' ⟨rfl, rfl⟩)
    go_ret2
    have hr2 := congrArg Prod.fst hr.out
    have hr3 := congrArg Prod.snd hr.out
    exact ⟨ret_ii (by rw [hr2]; try omega) (by rw [hr3]; try omega), rfl⟩
  · have hr : Hid (hil 1 (m + 1 * 2) = ((hil 0 m).1 + 1, (hil 0 m).2 + 1)) := hid (hil_q 0 _ 2 m 1 rfl (by omega) (by omega))
    have hz : ((m + 1 * 2 : Nat) : Int) = m + 2 := by omega
    rw [hz]
    clear hz
    obtain rfl : m = 0 := by omega
    go_enter Tryd.func11, Tryd.ntmps11
    go_wp2_with (go_at_call 11; refine (HL.out _).mono ?_; rintro e w' ⟨rfl, rfl⟩)
    go_ret2
    have hr2 := congrArg Prod.fst hr.out
    have hr3 := congrArg Prod.snd hr.out
    exact ⟨ret_ii (by rw [hr2]; try omega) (by rw [hr3]; try omega), rfl⟩
  · have hr : Hid (hil 1 (m + 1 * 3) = (2 * 1 - 1 - (hil 0 m).2, 1 - 1 - (hil 0 m).1)) := hid (hil_q 0 _ 3 m 1 rfl (by omega) (by omega))
    have hz : ((m + 1 * 3 : Nat) : Int) = m + 3 := by omega
    rw [hz]
    clear hz
    obtain rfl : m = 0 := by omega
    go_enter Tryd.func11, Tryd.ntmps11
    go_wp2_with (go_at_call 11; refine (HL.out _).mono ?_; rintro e w' ⟨rfl, rfl⟩)
    go_ret2
    have hr2 := congrArg Prod.fst hr.out
    have hr3 := congrArg Prod.snd hr.out
    exact ⟨ret_ii (by rw [hr2]; try omega) (by rw [hr3]; try omega), rfl⟩
theorem l8Cell_2 (n : Nat) (hn : n < 16) (w : World) :
    Calls Tryd.prog 11 #[.int .i64 2, .int .i64 n] w fun e w' => e = .returned (.tuple #[.int .i64 ((hil 2 n).1 : Nat), .int .i64 ((hil 2 n).2 : Nat)]) ∧ w = w' := by
  obtain ⟨q, m, hq, rfl, hm⟩ : ∃ q m : Nat, q < 4 ∧ n = m + 4 * q ∧ m < 4 := ⟨n / 4, n % 4, by omega, by omega, by omega⟩
  clear hn
  have hp := hil_lt 1 (by omega) m (by simpa using hm)
  simp only [Nat.reducePow] at hp
  have HL := hid (fun w => l8Cell_1 m hm w)
  obtain rfl | rfl | rfl | rfl : q = 0 ∨ q = 1 ∨ q = 2 ∨ q = 3 := by omega
  · have hr : Hid (hil 2 (m + 4 * 0) = ((hil 1 m).2, (hil 1 m).1)) := hid (hil_q 1 _ 0 m 2 rfl (by omega) (by omega))
    have hz : ((m + 4 * 0 : Nat) : Int) = m + 0 := by omega
    
    clear hz
    have e1 : (m : Int) % 4 = m := by omega
    have e2 : (m : Int) / 4 = 0 := by omega
    go_enter Tryd.func11, Tryd.ntmps11
    go_wp2_with (go_at_call 11; refine (HL.out _).mono ?_; rintro e w' ⟨rfl, rfl⟩)
    go_ret2
    have hr2 := congrArg Prod.fst hr.out
    have hr3 := congrArg Prod.snd hr.out
    exact ⟨ret_ii (by rw [hr2]; try omega) (by rw [hr3]; try omega), rfl⟩
  · have hr : Hid (hil 2 (m + 4 * 1) = ((hil 1 m).1, (hil 1 m).2 + 2)) := hid (hil_q 1 _ 1 m 2 rfl (by omega) (by omega))
    have hz : ((m + 4 * 1 : Nat) : Int) = m + 4 := by omega
    rw [hz]
    clear hz
    have e1 : ((m : Int) + 4) % 4 = m := by omega
    have e2 : ((m : Int) + 4) / 4 = 1 := by omega
    go_enter Tryd.func11, Tryd.ntmps11
    go_wp2_with (go_at_call 11; refine (HL.out _).mono ?_; rintro e w' ⟨rfl, rfl⟩)
    go_ret2
    have hr2 := congrArg Prod.fst hr.out
    have hr3 := congrArg Prod.snd hr.out
    exact ⟨ret_ii (by rw [hr2]; try omega) (by rw [hr3]; try omega), rfl⟩
  · have hr : Hid (hil 2 (m + 4 * 2) = ((hil 1 m).1 + 2, (hil 1 m).2 + 2)) := hid (hil_q 1 _ 2 m 2 rfl (by omega) (by omega))
    have hz : ((m + 4 * 2 : Nat) : Int) = m + 8 := by omega
    rw [hz]
    clear hz
    have e1 : ((m : Int) + 8) % 4 = m := by omega
    have e2 : ((m : Int) + 8) / 4 = 2 := by omega
    go_enter Tryd.func11, Tryd.ntmps11
    go_wp2_with (go_at_call 11; refine (HL.out _).mono ?_; rintro e w' ⟨rfl, rfl⟩)
    go_ret2
    have hr2 := congrArg Prod.fst hr.out
    have hr3 := congrArg Prod.snd hr.out
    exact ⟨ret_ii (by rw [hr2]; try omega) (by rw [hr3]; try omega), rfl⟩
  · have hr : Hid (hil 2 (m + 4 * 3) = (2 * 2 - 1 - (hil 1 m).2, 2 - 1 - (hil 1 m).1)) := hid (hil_q 1 _ 3 m 2 rfl (by omega) (by omega))
    have hz : ((m + 4 * 3 : Nat) : Int) = m + 12 := by omega
    rw [hz]
    clear hz
    have e1 : ((m : Int) + 12) % 4 = m := by omega
    have e2 : ((m : Int) + 12) / 4 = 3 := by omega
    go_enter Tryd.func11, Tryd.ntmps11
    go_wp2_with (go_at_call 11; refine (HL.out _).mono ?_; rintro e w' ⟨rfl, rfl⟩)
    go_ret2
    have hr2 := congrArg Prod.fst hr.out
    have hr3 := congrArg Prod.snd hr.out
    exact ⟨ret_ii (by rw [hr2]; try omega) (by rw [hr3]; try omega), rfl⟩
theorem l8Cell_3 (n : Nat) (hn : n < 64) (w : World) :
    Calls Tryd.prog 11 #[.int .i64 3, .int .i64 n] w fun e w' => e = .returned (.tuple #[.int .i64 ((hil 3 n).1 : Nat), .int .i64 ((hil 3 n).2 : Nat)]) ∧ w = w' := by
  obtain ⟨q, m, hq, rfl, hm⟩ : ∃ q m : Nat, q < 4 ∧ n = m + 16 * q ∧ m < 16 := ⟨n / 16, n % 16, by omega, by omega, by omega⟩
  clear hn
  have hp := hil_lt 2 (by omega) m (by simpa using hm)
  simp only [Nat.reducePow] at hp
  have HL := hid (fun w => l8Cell_2 m hm w)
  obtain rfl | rfl | rfl | rfl : q = 0 ∨ q = 1 ∨ q = 2 ∨ q = 3 := by omega
  · have hr : Hid (hil 3 (m + 16 * 0) = ((hil 2 m).2, (hil 2 m).1)) := hid (hil_q 2 _ 0 m 4 rfl (by omega) (by omega))
    have hz : ((m + 16 * 0 : Nat) : Int) = m + 0 := by omega
    
    clear hz
    have e1 : (m : Int) % 16 = m := by omega
    have e2 : (m : Int) / 16 = 0 := by omega
    go_enter Tryd.func11, Tryd.ntmps11
    go_wp2_with (go_at_call 11; refine (HL.out _).mono ?_; rintro e w' ⟨rfl, rfl⟩)
    go_ret2
    have hr2 := congrArg Prod.fst hr.out
    have hr3 := congrArg Prod.snd hr.out
    exact ⟨ret_ii (by rw [hr2]; try omega) (by rw [hr3]; try omega), rfl⟩
  · have hr : Hid (hil 3 (m + 16 * 1) = ((hil 2 m).1, (hil 2 m).2 + 4)) := hid (hil_q 2 _ 1 m 4 rfl (by omega) (by omega))
    have hz : ((m + 16 * 1 : Nat) : Int) = m + 16 := by omega
    rw [hz]
    clear hz
    have e1 : ((m : Int) + 16) % 16 = m := by omega
    have e2 : ((m : Int) + 16) / 16 = 1 := by omega
    go_enter Tryd.func11, Tryd.ntmps11
    go_wp2_with (go_at_call 11; refine (HL.out _).mono ?_; rintro e w' ⟨rfl, rfl⟩)
    go_ret2
    have hr2 := congrArg Prod.fst hr.out
    have hr3 := congrArg Prod.snd hr.out
    exact ⟨ret_ii (by rw [hr2]; try omega) (by rw [hr3]; try omega), rfl⟩
  · have hr : Hid (hil 3 (m + 16 * 2) = ((hil 2 m).1 + 4, (hil 2 m).2 + 4)) := hid (hil_q 2 _ 2 m 4 rfl (by omega) (by omega))
    have hz : ((m + 16 * 2 : Nat) : Int) = m + 32 := by omega
    rw [hz]
    clear hz
    have e1 : ((m : Int) + 32) % 16 = m := by omega
    have e2 : ((m : Int) + 32) / 16 = 2 := by omega
    go_enter Tryd.func11, Tryd.ntmps11
    go_wp2_with (go_at_call 11; refine (HL.out _).mono ?_; rintro e w' ⟨rfl, rfl⟩)
    go_ret2
    have hr2 := congrArg Prod.fst hr.out
    have hr3 := congrArg Prod.snd hr.out
    exact ⟨ret_ii (by rw [hr2]; try omega) (by rw [hr3]; try omega), rfl⟩
  · have hr : Hid (hil 3 (m + 16 * 3) = (2 * 4 - 1 - (hil 2 m).2, 4 - 1 - (hil 2 m).1)) := hid (hil_q 2 _ 3 m 4 rfl (by omega) (by omega))
    have hz : ((m + 16 * 3 : Nat) : Int) = m + 48 := by omega
    rw [hz]
    clear hz
    have e1 : ((m : Int) + 48) % 16 = m := by omega
    have e2 : ((m : Int) + 48) / 16 = 3 := by omega
    go_enter Tryd.func11, Tryd.ntmps11
    go_wp2_with (go_at_call 11; refine (HL.out _).mono ?_; rintro e w' ⟨rfl, rfl⟩)
    go_ret2
    have hr2 := congrArg Prod.fst hr.out
    have hr3 := congrArg Prod.snd hr.out
    exact ⟨ret_ii (by rw [hr2]; try omega) (by rw [hr3]; try omega), rfl⟩
theorem l8Cell_4 (n : Nat) (hn : n < 256) (w : World) :
    Calls Tryd.prog 11 #[.int .i64 4, .int .i64 n] w fun e w' => e = .returned (.tuple #[.int .i64 ((hil 4 n).1 : Nat), .int .i64 ((hil 4 n).2 : Nat)]) ∧ w = w' := by
  obtain ⟨q, m, hq, rfl, hm⟩ : ∃ q m : Nat, q < 4 ∧ n = m + 64 * q ∧ m < 64 := ⟨n / 64, n % 64, by omega, by omega, by omega⟩
  clear hn
  have hp := hil_lt 3 (by omega) m (by simpa using hm)
  simp only [Nat.reducePow] at hp
  have HL := hid (fun w => l8Cell_3 m hm w)
  obtain rfl | rfl | rfl | rfl : q = 0 ∨ q = 1 ∨ q = 2 ∨ q = 3 := by omega
  · have hr : Hid (hil 4 (m + 64 * 0) = ((hil 3 m).2, (hil 3 m).1)) := hid (hil_q 3 _ 0 m 8 rfl (by omega) (by omega))
    have hz : ((m + 64 * 0 : Nat) : Int) = m + 0 := by omega
    
    clear hz
    have e1 : (m : Int) % 64 = m := by omega
    have e2 : (m : Int) / 64 = 0 := by omega
    go_enter Tryd.func11, Tryd.ntmps11
    go_wp2_with (go_at_call 11; refine (HL.out _).mono ?_; rintro e w' ⟨rfl, rfl⟩)
    go_ret2
    have hr2 := congrArg Prod.fst hr.out
    have hr3 := congrArg Prod.snd hr.out
    exact ⟨ret_ii (by rw [hr2]; try omega) (by rw [hr3]; try omega), rfl⟩
  · have hr : Hid (hil 4 (m + 64 * 1) = ((hil 3 m).1, (hil 3 m).2 + 8)) := hid (hil_q 3 _ 1 m 8 rfl (by omega) (by omega))
    have hz : ((m + 64 * 1 : Nat) : Int) = m + 64 := by omega
    rw [hz]
    clear hz
    have e1 : ((m : Int) + 64) % 64 = m := by omega
    have e2 : ((m : Int) + 64) / 64 = 1 := by omega
    go_enter Tryd.func11, Tryd.ntmps11
    go_wp2_with (go_at_call 11; refine (HL.out _).mono ?_; rintro e w' ⟨rfl, rfl⟩)
    go_ret2
    have hr2 := congrArg Prod.fst hr.out
    have hr3 := congrArg Prod.snd hr.out
    exact ⟨ret_ii (by rw [hr2]; try omega) (by rw [hr3]; try omega), rfl⟩
  · have hr : Hid (hil 4 (m + 64 * 2) = ((hil 3 m).1 + 8, (hil 3 m).2 + 8)) := hid (hil_q 3 _ 2 m 8 rfl (by omega) (by omega))
    have hz : ((m + 64 * 2 : Nat) : Int) = m + 128 := by omega
    rw [hz]
    clear hz
    have e1 : ((m : Int) + 128) % 64 = m := by omega
    have e2 : ((m : Int) + 128) / 64 = 2 := by omega
    go_enter Tryd.func11, Tryd.ntmps11
    go_wp2_with (go_at_call 11; refine (HL.out _).mono ?_; rintro e w' ⟨rfl, rfl⟩)
    go_ret2
    have hr2 := congrArg Prod.fst hr.out
    have hr3 := congrArg Prod.snd hr.out
    exact ⟨ret_ii (by rw [hr2]; try omega) (by rw [hr3]; try omega), rfl⟩
  · have hr : Hid (hil 4 (m + 64 * 3) = (2 * 8 - 1 - (hil 3 m).2, 8 - 1 - (hil 3 m).1)) := hid (hil_q 3 _ 3 m 8 rfl (by omega) (by omega))
    have hz : ((m + 64 * 3 : Nat) : Int) = m + 192 := by omega
    rw [hz]
    clear hz
    have e1 : ((m : Int) + 192) % 64 = m := by omega
    have e2 : ((m : Int) + 192) / 64 = 3 := by omega
    go_enter Tryd.func11, Tryd.ntmps11
    go_wp2_with (go_at_call 11; refine (HL.out _).mono ?_; rintro e w' ⟨rfl, rfl⟩)
    go_ret2
    have hr2 := congrArg Prod.fst hr.out
    have hr3 := congrArg Prod.snd hr.out
    exact ⟨ret_ii (by rw [hr2]; try omega) (by rw [hr3]; try omega), rfl⟩
theorem l8Cell_5 (n : Nat) (hn : n < 1024) (w : World) :
    Calls Tryd.prog 11 #[.int .i64 5, .int .i64 n] w fun e w' => e = .returned (.tuple #[.int .i64 ((hil 5 n).1 : Nat), .int .i64 ((hil 5 n).2 : Nat)]) ∧ w = w' := by
  obtain ⟨q, m, hq, rfl, hm⟩ : ∃ q m : Nat, q < 4 ∧ n = m + 256 * q ∧ m < 256 := ⟨n / 256, n % 256, by omega, by omega, by omega⟩
  clear hn
  have hp := hil_lt 4 (by omega) m (by simpa using hm)
  simp only [Nat.reducePow] at hp
  have HL := hid (fun w => l8Cell_4 m hm w)
  obtain rfl | rfl | rfl | rfl : q = 0 ∨ q = 1 ∨ q = 2 ∨ q = 3 := by omega
  · have hr : Hid (hil 5 (m + 256 * 0) = ((hil 4 m).2, (hil 4 m).1)) := hid (hil_q 4 _ 0 m 16 rfl (by omega) (by omega))
    have hz : ((m + 256 * 0 : Nat) : Int) = m + 0 := by omega
    
    clear hz
    have e1 : (m : Int) % 256 = m := by omega
    have e2 : (m : Int) / 256 = 0 := by omega
    go_enter Tryd.func11, Tryd.ntmps11
    go_wp2_with (go_at_call 11; refine (HL.out _).mono ?_; rintro e w' ⟨rfl, rfl⟩)
    go_ret2
    have hr2 := congrArg Prod.fst hr.out
    have hr3 := congrArg Prod.snd hr.out
    exact ⟨ret_ii (by rw [hr2]; try omega) (by rw [hr3]; try omega), rfl⟩
  · have hr : Hid (hil 5 (m + 256 * 1) = ((hil 4 m).1, (hil 4 m).2 + 16)) := hid (hil_q 4 _ 1 m 16 rfl (by omega) (by omega))
    have hz : ((m + 256 * 1 : Nat) : Int) = m + 256 := by omega
    rw [hz]
    clear hz
    have e1 : ((m : Int) + 256) % 256 = m := by omega
    have e2 : ((m : Int) + 256) / 256 = 1 := by omega
    go_enter Tryd.func11, Tryd.ntmps11
    go_wp2_with (go_at_call 11; refine (HL.out _).mono ?_; rintro e w' ⟨rfl, rfl⟩)
    go_ret2
    have hr2 := congrArg Prod.fst hr.out
    have hr3 := congrArg Prod.snd hr.out
    exact ⟨ret_ii (by rw [hr2]; try omega) (by rw [hr3]; try omega), rfl⟩
  · have hr : Hid (hil 5 (m + 256 * 2) = ((hil 4 m).1 + 16, (hil 4 m).2 + 16)) := hid (hil_q 4 _ 2 m 16 rfl (by omega) (by omega))
    have hz : ((m + 256 * 2 : Nat) : Int) = m + 512 := by omega
    rw [hz]
    clear hz
    have e1 : ((m : Int) + 512) % 256 = m := by omega
    have e2 : ((m : Int) + 512) / 256 = 2 := by omega
    go_enter Tryd.func11, Tryd.ntmps11
    go_wp2_with (go_at_call 11; refine (HL.out _).mono ?_; rintro e w' ⟨rfl, rfl⟩)
    go_ret2
    have hr2 := congrArg Prod.fst hr.out
    have hr3 := congrArg Prod.snd hr.out
    exact ⟨ret_ii (by rw [hr2]; try omega) (by rw [hr3]; try omega), rfl⟩
  · have hr : Hid (hil 5 (m + 256 * 3) = (2 * 16 - 1 - (hil 4 m).2, 16 - 1 - (hil 4 m).1)) := hid (hil_q 4 _ 3 m 16 rfl (by omega) (by omega))
    have hz : ((m + 256 * 3 : Nat) : Int) = m + 768 := by omega
    rw [hz]
    clear hz
    have e1 : ((m : Int) + 768) % 256 = m := by omega
    have e2 : ((m : Int) + 768) / 256 = 3 := by omega
    go_enter Tryd.func11, Tryd.ntmps11
    go_wp2_with (go_at_call 11; refine (HL.out _).mono ?_; rintro e w' ⟨rfl, rfl⟩)
    go_ret2
    have hr2 := congrArg Prod.fst hr.out
    have hr3 := congrArg Prod.snd hr.out
    exact ⟨ret_ii (by rw [hr2]; try omega) (by rw [hr3]; try omega), rfl⟩
end Go.Proofs.YtbklcalpojkjfaaDoor
