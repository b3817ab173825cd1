/- Contracts: WordOk and alive. -/
import Derived.Test.YtiachjnplgpegaaDoorKit
import Derived.Outline
namespace Go.Proofs.YtiachjnplgpegaaDoor
open Go.RowKit

/-- F, L or R. -/
def isLetter (b : UInt8) : Bool := ((b.toNat : Int) == 70) || ((b.toNat : Int) == 76) || ((b.toNat : Int) == 82)
theorem letF {b : UInt8} (h : ((b.toNat : Int) == 70) = true) : isLetter b = true := by unfold isLetter; rw [h]; rfl
theorem letL {b : UInt8} (h : ((b.toNat : Int) == 76) = true) : isLetter b = true := by unfold isLetter; rw [h]; simp
theorem letR {b : UInt8} (h : ((b.toNat : Int) == 82) = true) : isLetter b = true := by unfold isLetter; rw [h]; simp
theorem letNo {b : UInt8} (h1 : ((b.toNat : Int) == 70) = false) (h2 : ((b.toNat : Int) == 76) = false) (h3 : ((b.toNat : Int) == 82) = false) : isLetter b = false := by unfold isLetter; rw [h1, h2, h3]; rfl
/-- Is it a word? -/
def wordOk (s : ByteArray) : Bool := decide (s.size ≤ 256) && s.data.toList.all isLetter

theorem take_snoc (s : ByteArray) (k : Nat) (h : k < s.size) : s.data.toList.take (k + 1) = s.data.toList.take k ++ [s[k]] := by
  rw [List.take_succ_eq_append_getElem (by simpa using h)]; rfl
theorem take_all (s : ByteArray) : s.data.toList.take s.size = s.data.toList := List.take_of_length_le (by simp)

theorem wordOk_big {s : ByteArray} (h : 256 < s.size) : wordOk s = false := by unfold wordOk; simp; omega
theorem wordOk_bad {s : ByteArray} {k : Nat} (h : k < s.size) (hb : isLetter s[k] = false) : wordOk s = false := by
  unfold wordOk
  have : s.data.toList.all isLetter = false := by
    rw [List.all_eq_false]
    exact ⟨s[k], by have := take_snoc s k h; exact List.mem_of_mem_take (i := k + 1) (by rw [this]; simp), by simp [hb]⟩
  rw [this]; simp
theorem wordOk_good {s : ByteArray} (h : s.size ≤ 256) (ha : (s.data.toList.take s.size).all isLetter = true) : wordOk s = true := by
  unfold wordOk; rw [take_all] at ha; simp [ha, h]

theorem all_snoc {s : ByteArray} {k : Nat} (h : k < s.size) (ha : (s.data.toList.take k).all isLetter = true) (hb : isLetter s[k] = true) : (s.data.toList.take (k + 1)).all isLetter = true := by
  rw [take_snoc s k h, List.all_append, ha]; simp [hb]

theorem wordOk_flr : wordOk (⟨#[70, 76, 82]⟩ : ByteArray) = true := by decide +kernel
theorem wordOk_x : wordOk (⟨#[88]⟩ : ByteArray) = false := by decide +kernel

end Go.Proofs.YtiachjnplgpegaaDoor
