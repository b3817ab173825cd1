/- Contracts: the directions of letters; WalkOk of both packages. -/
import Derived.Test.YtkfmppjljdhogaaDoorAlive
import Derived.Test.YtkfmppjljdhogaaDoorP3
import Derived.Laws.Externs
import Derived.Lib.Bytealg
namespace Go.Proofs.YtkfmppjljdhogaaDoor
open Go.RowKit TW

/-- A text's letters. -/
abbrev lets (s : ByteArray) : List UInt8 := s.data.toList
theorem lets_len (s : ByteArray) : (lets s).length = s.size := by simp [lets]
theorem at0_lets {s : ByteArray} {k : Nat} (h : k < s.size) : at0 (lets s) k = s[k] := by
  unfold at0
  rw [List.getD_eq_getElem?_getD, List.getElem?_eq_getElem (by simpa using h)]; rfl

theorem ix_look (b : UInt8) : Lib.indexByte [101, 110, 119, 115] b = lkB b := by
  have all : ∀ n : Nat, n < 256 → Lib.indexByte [101, 110, 119, 115] (UInt8.ofNat n) = lkB (UInt8.ofNat n) := by decide +kernel
  have := all b.toNat (UInt8.toNat_lt b)
  rwa [UInt8.ofNat_toNat] at this

theorem directionOf_c (b : UInt8) (w : World) :
    Calls Tryd.prog 50 #[.int .u8 (b.toNat : Int)] w fun e w' => e = .returned (.int .i64 (lkB b)) ∧ w = w' := by
  go_enter Tryd.func50, Tryd.ntmps50
  go_wp2
  rw [run_callFunc_extern Tryd.func59 (by kernel_rfl) (by kernel_rfl) (by kernel_rfl) (e := Extern.BytealgIndexByte.indexByte) (by kernel_rfl), Lib.run_indexByteString]
  simp only [Result.andThen]
  rw [Oper.upon_value]
  go_wp2
  go_ret
  refine ⟨ret_int ?_, rfl⟩
  rw [← ix_look b]

theorem all_snoc_of {f : UInt8 → Bool} {s : ByteArray} {k : Nat} (h : k < s.size) (ha : ((lets s).take k).all f = true) (hb : f s[k] = true) : ((lets s).take (k + 1)).all f = true := by
  rw [take_snoc s k h, List.all_append, ha]; simp [hb]
theorem all_bad_of {f : UInt8 → Bool} {s : ByteArray} {k : Nat} (h : k < s.size) (hb : f s[k] = false) : (lets s).all f = false := by
  rw [List.all_eq_false]
  exact ⟨s[k], by have := take_snoc s k h; exact List.mem_of_mem_take (i := k + 1) (by rw [this]; simp), by simp [hb]⟩
theorem wk_big {s : ByteArray} (h : 40 < s.size) : wkL (lets s) = false := by unfold wkL; rw [lets_len]; simp; omega
theorem wk_bad {s : ByteArray} {k : Nat} (h : k < s.size) (hb : isStep s[k] = false) : wkL (lets s) = false := by unfold wkL; rw [all_bad_of h hb]; simp
theorem wk_good {s : ByteArray} (h : s.size ≤ 40) (ha : ((lets s).take s.size).all isStep = true) : wkL (lets s) = true := by
  unfold wkL; rw [take_all] at ha; rw [ha, lets_len]; simp [h]

theorem implWalkOk_c (s : ByteArray) (hs : s.size ≤ maxLen) (w : World) :
    Calls Tryd.prog 46 #[.string s] w fun e w' => e = .returned (.bool (wkL (lets s))) ∧ w = w' := by
  unfold maxLen at hs
  by_cases hbig : 40 < s.size
  · have H := hid (wk_big hbig)
    go_enter Tryd.func46, Tryd.ntmps46
    go_wp2
    go_ret
    exact ⟨ret_bool (by rw [H.out]), rfl⟩
  · go_enter Tryd.func46, Tryd.ntmps46
    go_wp2_with fail
    go_loop [3] (fun i => ∃ k : Nat, k ≤ s.size ∧ i = .int .i64 k ∧ Hid (((lets s).take k).all isStep = true)) (fun i => s.size - (intOf i).toNat)
    case atStart => exact ⟨0, Nat.zero_le _, rfl, hid rfl⟩
    case round =>
      obtain ⟨k, hk, rfl, HA⟩ := hrel
      by_cases hlt : k < s.size
      · have hst := isStep_look s[k]
        by_cases h0 : 0 ≤ lkB s[k]
        · have HB : Hid (isStep s[k] = true) := by rw [hst]; exact hid (by simpa using h0)
          have h0' : ¬ lkB s[k] < 0 := by omega
          clear hst
          go_wp2_with (go_at_call 50; refine (directionOf_c _ _).mono ?_; rintro e w' ⟨rfl, rfl⟩)
          go_round
          case rel => exact ⟨k + 1, by omega, by go_num, hid (all_snoc_of hlt HA.out HB.out)⟩
          case measure => simp [intOf]; omega
        · have HB : Hid (isStep s[k] = false) := by rw [hst]; exact hid (by simpa using h0)
          have h0' : lkB s[k] < 0 := by omega
          clear hst
          go_wp2_with (go_at_call 50; refine (directionOf_c _ _).mono ?_; rintro e w' ⟨rfl, rfl⟩)
          go_ret
          exact ⟨ret_bool (wk_bad hlt HB.out).symm, rfl⟩
      · have e : k = s.size := by omega
        subst e
        have H := hid (wk_good (by omega) HA.out)
        go_wp2_with fail
        go_ret
        exact ⟨ret_bool (by rw [H.out]), rfl⟩
end Go.Proofs.YtkfmppjljdhogaaDoor
