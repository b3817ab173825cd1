/- The walk of FnExactSpiralRounds. -/
import Derived.Test.YtbeacmealippmaaDoorRounds2
namespace Go.Proofs.YtbeacmealippmaaDoor
open Go.RowKit TW

theorem walk_FnExactSpiralRounds (o : Int) (_ : (Lit.int .i64 o).wf = true) (r : Int) (_ : (Lit.int .i64 r).wf = true) (w : World) (hd : Dirs w) :
    Calls Tryd.prog 3 #[.int .i64 o, .int .i64 r] w fun e w' => e = .returned (.bool true) ∧ Below w.heap.size w w' := by
  have HD := hid hd
  clear hd
  go_enter Tryd.func3, Tryd.ntmps3
  go_wp2_with fail
  refine (specSpiralRounds_c o r _).mono ?_
  rintro e w1 ⟨rfl, hb1⟩
  have HB1 := hid hb1
  clear hb1
  go_wp2_with fail
  refine (implSpiralRounds_c o r _ (HD.out.below HB1.out)).mono ?_
  rintro e w2 ⟨rfl, hb2⟩
  have HB2 := hid (HB1.out.trans (hb2.mono HB1.out.size))
  clear hb2 HB1
  go_wp2_with fail
  go_ret
  exact ⟨rfl, HB2.out⟩
end Go.Proofs.YtbeacmealippmaaDoor
