/- The walk of FnExactCurveWalk. -/
import Derived.Test.YtbklcalpojkjfaaDoorCurve2
import Derived.Test.YtbklcalpojkjfaaDoorCurve3
namespace Go.Proofs.YtbklcalpojkjfaaDoor
open Go.RowKit TW

theorem walk_FnExactCurveWalk (h : Int) (_ : (Lit.int .i64 h).wf = true) (w : World) (hd : Dirs w) :
    Calls Tryd.prog 3 #[.int .i64 h] w fun e w' => e = .returned (.bool true) ∧ Below w.heap.size w w' := by
  have HD := hid hd
  clear hd
  go_enter Tryd.func3, Tryd.ntmps3
  go_wp2_with fail
  refine (specCurve_c h _).mono ?_
  rintro e w1 ⟨rfl, hb1⟩
  have HB1 := hid hb1
  clear hb1
  go_wp2_with fail
  refine (implCurve_c h _ (HD.out.below HB1.out)).mono ?_
  rintro e w2 ⟨rfl, hb2⟩
  have HB2 := hid (HB1.out.trans (hb2.mono HB1.out.size))
  clear hb2 HB1
  go_wp2_with fail
  go_ret
  exact ⟨rfl, HB2.out⟩
end Go.Proofs.YtbklcalpojkjfaaDoor
