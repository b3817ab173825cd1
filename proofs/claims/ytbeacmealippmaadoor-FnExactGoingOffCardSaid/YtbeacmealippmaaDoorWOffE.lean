/- The walk of FnExactGoingOff. -/
import Derived.Test.YtbeacmealippmaaDoorOff
namespace Go.Proofs.YtbeacmealippmaaDoor
open Go.RowKit TW

theorem walk_FnExactGoingOff (o : Int) (_ : (Lit.int .i64 o).wf = true) (w : World) (hd : Dirs w) :
    Calls Tryd.prog 4 #[.int .i64 o] w fun e w' => e = .returned (.bool true) ∧ Below w.heap.size w w' := by
  have HD := hid hd
  clear hd
  go_enter Tryd.func4, Tryd.ntmps4
  go_wp2_with fail
  refine (specOff_c o _).mono ?_
  rintro e w1 ⟨rfl, hb1⟩
  have HB1 := hid hb1
  clear hb1
  go_wp2_with fail
  refine (implOff_c o _ (HD.out.below HB1.out)).mono ?_
  rintro e w2 ⟨rfl, hb2⟩
  have HB2 := hid (HB1.out.trans (hb2.mono HB1.out.size))
  clear hb2 HB1
  go_wp2_with fail
  go_ret
  exact ⟨rfl, HB2.out⟩
end Go.Proofs.YtbeacmealippmaaDoor
