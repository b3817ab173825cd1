/- Contracts: l4Look and WalkOk of the reference. -/
import Derived.Test.YtkfmppjljdhogaaDoorWkA
namespace Go.Proofs.YtkfmppjljdhogaaDoor
open Go.RowKit TW

theorem u8_eq {b : UInt8} {n : Nat} (hn : n < 256) (h : ((b.toNat : Int) == (n : Int)) = true) : b = UInt8.ofNat n := by
  have h1 : b.toNat = n := by have := beq_iff_eq.1 h; omega
  rw [← h1, UInt8.ofNat_toNat]
theorem u8_ne {b : UInt8} {n : Nat} (hn : n < 256) (h : ((b.toNat : Int) == (n : Int)) = false) : b ≠ UInt8.ofNat n := fun e => by
  subst e
  simp [Nat.mod_eq_of_lt hn] at h
theorem lk_e {b : UInt8} (h : ((b.toNat : Int) == 101) = true) : lkB b = 0 := by rw [u8_eq (n := 101) (by decide) h]; rfl
theorem lk_n {b : UInt8} (h : ((b.toNat : Int) == 110) = true) : lkB b = 1 := by rw [u8_eq (n := 110) (by decide) h]; rfl
theorem lk_w {b : UInt8} (h : ((b.toNat : Int) == 119) = true) : lkB b = 2 := by rw [u8_eq (n := 119) (by decide) h]; rfl
theorem lk_s {b : UInt8} (h : ((b.toNat : Int) == 115) = true) : lkB b = 3 := by rw [u8_eq (n := 115) (by decide) h]; rfl
theorem lk_no {b : UInt8} (h1 : ((b.toNat : Int) == 101) = false) (h2 : ((b.toNat : Int) == 110) = false) (h3 : ((b.toNat : Int) == 119) = false) (h4 : ((b.toNat : Int) == 115) = false) : lkB b = -1 := by
  unfold lkB
  rw [if_neg (show b ≠ 101 from u8_ne (n := 101) (by decide) h1), if_neg (show b ≠ 110 from u8_ne (n := 110) (by decide) h2), if_neg (show b ≠ 119 from u8_ne (n := 119) (by decide) h3), if_neg (show b ≠ 115 from u8_ne (n := 115) (by decide) h4)]

theorem l4Look_c (b : UInt8) (w : World) :
    Calls Tryd.prog 43 #[.int .u8 (b.toNat : Int)] w fun e w' => e = .returned (.int .i64 (lkB b)) ∧ w = w' := by
  go_enter Tryd.func43, Tryd.ntmps43
  go_wp2
  · go_ret
    exact ⟨ret_int (lk_e ‹_›).symm, rfl⟩
  · go_ret
    exact ⟨ret_int (lk_n ‹_›).symm, rfl⟩
  · go_ret
    exact ⟨ret_int (lk_w ‹_›).symm, rfl⟩
  · go_ret
    exact ⟨ret_int (lk_s ‹_›).symm, rfl⟩
  · go_ret
    exact ⟨ret_int (lk_no ‹_› ‹_› ‹_› ‹_›).symm, rfl⟩

theorem wk_end {s : ByteArray} (ha : ((lets s).take s.size).all isStep = true) : wkL (lets s) = decide ((s.size : Int) ≤ 40) := by
  unfold wkL; rw [take_all] at ha; rw [ha, lets_len, Bool.and_true]; exact decide_eq_decide.2 (by omega)

theorem specWalkOk_c (s : ByteArray) (hs : s.size ≤ maxLen) (w : World) :
    Calls Tryd.prog 52 #[.string s] w fun e w' => e = .returned (.bool (wkL (lets s))) ∧ w = w' := by
  unfold maxLen at hs
  go_enter Tryd.func52, Tryd.ntmps52
  go_wp2_with fail
  go_loop [3] (fun i => ∃ k : Nat, k ≤ s.size ∧ i = .int .i64 k ∧ Hid (((lets s).take k).all isStep = true)) (fun i => s.size - (intOf i).toNat)
  case atStart => exact ⟨0, Nat.zero_le _, rfl, hid rfl⟩
  case round =>
    obtain ⟨k, hk, rfl, HA⟩ := hrel
    by_cases hlt : k < s.size
    · have hst := isStep_look s[k]
      by_cases h0 : 0 ≤ lkB s[k]
      · have HB : Hid (isStep s[k] = true) := by rw [hst]; exact hid (by simpa using h0)
        have h0' : ¬ lkB s[k] < 0 := by omega
        clear hst
        go_wp2_with (go_at_call 43; refine (l4Look_c _ _).mono ?_; rintro e w' ⟨rfl, rfl⟩)
        go_round
        case rel => exact ⟨k + 1, by omega, by go_num, hid (all_snoc_of hlt HA.out HB.out)⟩
        case measure => simp [intOf]; omega
      · have HB : Hid (isStep s[k] = false) := by rw [hst]; exact hid (by simpa using h0)
        have h0' : lkB s[k] < 0 := by omega
        clear hst
        go_wp2_with (go_at_call 43; refine (l4Look_c _ _).mono ?_; rintro e w' ⟨rfl, rfl⟩)
        go_ret
        exact ⟨ret_bool (wk_bad hlt HB.out).symm, rfl⟩
    · have e : k = s.size := by omega
      subst e
      have H := hid (wk_end HA.out)
      go_wp2_with fail
      go_ret
      exact ⟨ret_bool (by rw [H.out]), rfl⟩
end Go.Proofs.YtkfmppjljdhogaaDoor
