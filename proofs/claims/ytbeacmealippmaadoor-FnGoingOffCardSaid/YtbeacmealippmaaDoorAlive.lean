/- Contracts: WordOk and alive. -/
import Derived.Test.YtbeacmealippmaaDoorKit
import Derived.Outline
namespace Go.Proofs.YtbeacmealippmaaDoor
open Go.RowKit

/-- F, L or R. -/
def isLetter (b : UInt8) : Bool := ((b.toNat : Int) == 70) || ((b.toNat : Int) == 76) || ((b.toNat : Int) == 82)
theorem letF {b : UInt8} (h : ((b.toNat : Int) == 70) = true) : isLetter b = true := by unfold isLetter; rw [h]; rfl
theorem letL {b : UInt8} (h : ((b.toNat : Int) == 76) = true) : isLetter b = true := by unfold isLetter; rw [h]; simp
theorem letR {b : UInt8} (h : ((b.toNat : Int) == 82) = true) : isLetter b = true := by unfold isLetter; rw [h]; simp
theorem letNo {b : UInt8} (h1 : ((b.toNat : Int) == 70) = false) (h2 : ((b.toNat : Int) == 76) = false) (h3 : ((b.toNat : Int) == 82) = false) : isLetter b = false := by unfold isLetter; rw [h1, h2, h3]; rfl
/-- Is it a word? -/
def wordOk (s : ByteArray) : Bool := decide (s.size ≤ 256) && s.data.toList.all isLetter

theorem take_snoc (s : ByteArray) (k : Nat) (h : k < s.size) : s.data.toList.take (k + 1) = s.data.toList.take k ++ [s[k]] := by
  rw [List.take_succ_eq_append_getElem (by simpa using h)]; rfl
theorem take_all (s : ByteArray) : s.data.toList.take s.size = s.data.toList := List.take_of_length_le (by simp)

theorem wordOk_big {s : ByteArray} (h : 256 < s.size) : wordOk s = false := by unfold wordOk; simp; omega
theorem wordOk_bad {s : ByteArray} {k : Nat} (h : k < s.size) (hb : isLetter s[k] = false) : wordOk s = false := by
  unfold wordOk
  have : s.data.toList.all isLetter = false := by
    rw [List.all_eq_false]
    exact ⟨s[k], by have := take_snoc s k h; exact List.mem_of_mem_take (i := k + 1) (by rw [this]; simp), by simp [hb]⟩
  rw [this]; simp
theorem wordOk_good {s : ByteArray} (h : s.size ≤ 256) (ha : (s.data.toList.take s.size).all isLetter = true) : wordOk s = true := by
  unfold wordOk; rw [take_all] at ha; simp [ha, h]

theorem all_snoc {s : ByteArray} {k : Nat} (h : k < s.size) (ha : (s.data.toList.take k).all isLetter = true) (hb : isLetter s[k] = true) : (s.data.toList.take (k + 1)).all isLetter = true := by
  rw [take_snoc s k h, List.all_append, ha]; simp [hb]

theorem wordOk_c (s : ByteArray) (hs : s.size ≤ maxLen) (w : World) :
    Calls Tryd.prog 31 #[.string s] w fun e w' => e = .returned (.bool (wordOk s)) ∧ w = w' := by
  unfold maxLen at hs
  by_cases hbig : 256 < s.size
  · have H := hid (wordOk_big hbig)
    go_enter Tryd.func31, Tryd.ntmps31
    go_wp2
    go_ret
    exact ⟨ret_bool (by rw [H.out]), rfl⟩
  · go_enter Tryd.func31, Tryd.ntmps31
    go_wp2
    go_loop [3] (fun i => ∃ k : Nat, k ≤ s.size ∧ i = .int .i64 k ∧ Hid ((s.data.toList.take k).all isLetter = true)) (fun i => s.size - (intOf i).toNat)
    case atStart => exact ⟨0, Nat.zero_le _, rfl, hid rfl⟩
    case round =>
      obtain ⟨k, hk, rfl, HA⟩ := hrel
      by_cases hlt : k < s.size
      · go_wp2
        · go_round
          case rel => exact ⟨k + 1, by omega, by go_num, hid (all_snoc hlt HA.out (letF ‹_›))⟩
          case measure => simp [intOf]; omega
        · go_round
          case rel => exact ⟨k + 1, by omega, by go_num, hid (all_snoc hlt HA.out (letL ‹_›))⟩
          case measure => simp [intOf]; omega
        · go_round
          case rel => exact ⟨k + 1, by omega, by go_num, hid (all_snoc hlt HA.out (letR ‹_›))⟩
          case measure => simp [intOf]; omega
        · go_ret
          exact ⟨ret_bool (wordOk_bad hlt (letNo ‹_› ‹_› ‹_›)).symm, rfl⟩
      · have e : k = s.size := by omega
        subst e
        have H := hid (wordOk_good (by omega) HA.out)
        go_wp2
        go_ret
        exact ⟨ret_bool (by rw [H.out]), rfl⟩

theorem wordOk_flr : wordOk (⟨#[70, 76, 82]⟩ : ByteArray) = true := by decide +kernel
theorem wordOk_x : wordOk (⟨#[88]⟩ : ByteArray) = false := by decide +kernel

theorem alive_c (w : World) : Calls Tryd.prog 14 #[] w fun e w' => e = .returned (.bool true) ∧ w = w' := by
  have h1 := wordOk_flr
  have h2 := wordOk_x
  go_enter Tryd.func14, Tryd.ntmps14
  go_wp2_with (go_at_call 31; refine (wordOk_c _ (by decide +kernel) _).mono ?_; rintro e w' ⟨rfl, rfl⟩)
  go_ret
  exact ⟨rfl, rfl⟩
end Go.Proofs.YtbeacmealippmaaDoor
