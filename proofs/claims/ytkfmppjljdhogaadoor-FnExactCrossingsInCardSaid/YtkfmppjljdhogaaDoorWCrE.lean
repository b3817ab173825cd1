/- The walks of FnExactCrossingsIn. -/
import Derived.Test.YtkfmppjljdhogaaDoorWkY
namespace Go.Proofs.YtkfmppjljdhogaaDoor
open Go.RowKit TW

theorem walk_FnExactCrossingsIn (s : ByteArray) (hs : s.size ≤ maxLen) (w : World) (hd : Dirs w) :
    Calls Tryd.prog 7 #[.string s] w fun e w' => e = .returned (.bool true) ∧ Below w.heap.size w w' := by
  have HD := hid hd
  have HC1 := hid (fun w => specCrossingsIn_c s hs w)
  have HC2 := hid (fun w hd => implCrossingsIn_c s hs w hd)
  clear hd
  by_cases hbig : 1048576 < s.size
  · have hb' : (1048576 : Int) < (s.size : Int) := by omega
    clear hs
    go_enter Tryd.func7, Tryd.ntmps7
    go_wp2_with fail
    go_ret
    exact ⟨rfl, Below.refl _ _⟩
  · have hb' : ¬ (1048576 : Int) < (s.size : Int) := by omega
    clear hs
    go_enter Tryd.func7, Tryd.ntmps7
    go_wp2_with fail
    refine (HC1.out _).mono ?_
    rintro e w1 ⟨rfl, hb1⟩
    have HB1 := hid hb1
    clear hb1
    go_wp2_with fail
    refine (HC2.out _ (HD.out.below HB1.out)).mono ?_
    rintro e w2 ⟨rfl, hb2⟩
    have HB2 := hid (HB1.out.trans (hb2.mono HB1.out.size))
    clear hb2 HB1
    go_wp2_with fail
    go_ret
    exact ⟨rfl, HB2.out⟩
end Go.Proofs.YtkfmppjljdhogaaDoor
