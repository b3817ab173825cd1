/- The walks of FnExactAreaOf, FnExactWindingOf, FnExactWithinOk, FnExactBothOf. -/
import Derived.Test.YtiachjnplgpegaaDoorSpE
namespace Go.Proofs.YtiachjnplgpegaaDoor
open Go.RowKit TW

theorem walk_FnExactAreaOf (s : ByteArray) (hs : s.size ≤ maxLen) (w : World) (hd : Dirs w) :
    Calls Tryd.prog 4 #[.string s] w fun e w' => e = .returned (.bool true) ∧ Below w.heap.size w w' := by
  have HD := hid hd
  have HC1 := hid (fun w => specAreaOf_c s hs w)
  have HC2 := hid (fun w hd => implAreaOf_c s hs w hd)
  clear hd
  by_cases hbig : 1048576 < s.size
  · have hb' : (1048576 : Int) < (s.size : Int) := by omega
    clear hs
    go_enter Tryd.func4, Tryd.ntmps4
    go_wp2_with fail
    go_ret
    exact ⟨rfl, Below.refl _ _⟩
  · have hb' : ¬ (1048576 : Int) < (s.size : Int) := by omega
    clear hs
    go_enter Tryd.func4, Tryd.ntmps4
    go_wp2_with fail
    refine (HC1.out _).mono ?_
    rintro e w1 ⟨rfl, hb1⟩
    have HB1 := hid hb1
    clear hb1
    go_wp2_with fail
    refine (HC2.out _ (HD.out.below HB1.out)).mono ?_
    rintro e w2 ⟨rfl, hb2⟩
    have HB2 := hid (HB1.out.trans (hb2.mono HB1.out.size))
    clear hb2 HB1
    go_wp2_with fail
    go_ret
    exact ⟨rfl, HB2.out⟩

theorem walk_FnExactWindingOf (s : ByteArray) (hs : s.size ≤ maxLen) (x : Int) (_ : (Lit.int .i64 x).wf = true) (y : Int) (_ : (Lit.int .i64 y).wf = true) (w : World) (hd : Dirs w) :
    Calls Tryd.prog 5 #[.string s, .int .i64 x, .int .i64 y] w fun e w' => e = .returned (.bool true) ∧ Below w.heap.size w w' := by
  have HD := hid hd
  have HC1 := hid (fun w => specWindingOf_c s hs x y w)
  have HC2 := hid (fun w hd => implWindingOf_c s hs x y w hd)
  clear hd
  by_cases hbig : 1048576 < s.size
  · have hb' : (1048576 : Int) < (s.size : Int) := by omega
    clear hs
    go_enter Tryd.func5, Tryd.ntmps5
    go_wp2_with fail
    go_ret
    exact ⟨rfl, Below.refl _ _⟩
  · have hb' : ¬ (1048576 : Int) < (s.size : Int) := by omega
    clear hs
    go_enter Tryd.func5, Tryd.ntmps5
    go_wp2_with fail
    refine (HC1.out _).mono ?_
    rintro e w1 ⟨rfl, hb1⟩
    have HB1 := hid hb1
    clear hb1
    go_wp2_with fail
    refine (HC2.out _ (HD.out.below HB1.out)).mono ?_
    rintro e w2 ⟨rfl, hb2⟩
    have HB2 := hid (HB1.out.trans (hb2.mono HB1.out.size))
    clear hb2 HB1
    go_wp2_with fail
    go_ret
    exact ⟨rfl, HB2.out⟩

theorem walk_FnExactWithinOk (s : ByteArray) (hs : s.size ≤ maxLen) (x : Int) (_ : (Lit.int .i64 x).wf = true) (y : Int) (_ : (Lit.int .i64 y).wf = true) (w : World) (hd : Dirs w) :
    Calls Tryd.prog 6 #[.string s, .int .i64 x, .int .i64 y] w fun e w' => e = .returned (.bool true) ∧ Below w.heap.size w w' := by
  have HD := hid hd
  have HC1 := hid (fun w => specWithinOk_c s hs x y w)
  have HC2 := hid (fun w hd => implWithinOk_c s hs x y w hd)
  clear hd
  by_cases hbig : 1048576 < s.size
  · have hb' : (1048576 : Int) < (s.size : Int) := by omega
    clear hs
    go_enter Tryd.func6, Tryd.ntmps6
    go_wp2_with fail
    go_ret
    exact ⟨rfl, Below.refl _ _⟩
  · have hb' : ¬ (1048576 : Int) < (s.size : Int) := by omega
    clear hs
    go_enter Tryd.func6, Tryd.ntmps6
    go_wp2_with fail
    refine (HC1.out _).mono ?_
    rintro e w1 ⟨rfl, hb1⟩
    have HB1 := hid hb1
    clear hb1
    go_wp2_with fail
    refine (HC2.out _ (HD.out.below HB1.out)).mono ?_
    rintro e w2 ⟨rfl, hb2⟩
    have HB2 := hid (HB1.out.trans (hb2.mono HB1.out.size))
    clear hb2 HB1
    go_wp2_with fail
    go_ret
    exact ⟨rfl, HB2.out⟩

theorem walk_FnExactBothOf (a : ByteArray) (ha : a.size ≤ maxLen) (b : ByteArray) (hb : b.size ≤ maxLen) (w : World) (hd : Dirs w) :
    Calls Tryd.prog 3 #[.string a, .string b] w fun e w' => e = .returned (.bool true) ∧ Below w.heap.size w w' := by
  have HD := hid hd
  have HC1 := hid (fun w => specBothOf_c a b ha hb w)
  have HC2 := hid (fun w hd => implBothOf_c a b ha hb w hd)
  clear hd
  by_cases hbig : 1048576 < a.size
  · have hb' : (1048576 : Int) < (a.size : Int) := by omega
    clear ha hb
    go_enter Tryd.func3, Tryd.ntmps3
    go_wp2_with fail
    go_ret
    exact ⟨rfl, Below.refl _ _⟩
  · have hb' : ¬ (1048576 : Int) < (a.size : Int) := by omega
    by_cases hbig2 : 1048576 < b.size
    · have hb2 : (1048576 : Int) < (b.size : Int) := by omega
      clear ha hb
      go_enter Tryd.func3, Tryd.ntmps3
      go_wp2_with fail
      go_ret
      exact ⟨rfl, Below.refl _ _⟩
    · have hb2 : ¬ (1048576 : Int) < (b.size : Int) := by omega
      clear ha hb
      go_enter Tryd.func3, Tryd.ntmps3
      go_wp2_with fail
      refine (HC1.out _).mono ?_
      rintro e w1 ⟨rfl, hb1⟩
      have HB1 := hid hb1
      clear hb1
      go_wp2_with fail
      refine (HC2.out _ (HD.out.below HB1.out)).mono ?_
      rintro e w2 ⟨rfl, hb2⟩
      have HB2 := hid (HB1.out.trans (hb2.mono HB1.out.size))
      clear hb2 HB1
      go_wp2_with fail
      go_ret
      exact ⟨rfl, HB2.out⟩
end Go.Proofs.YtiachjnplgpegaaDoor
