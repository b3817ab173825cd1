/- The walk of FnExactSpiralWord. -/
import Derived.Test.YtjbfohdnelfcpaaSpWord2
namespace Go.Proofs.Ytjbfohdnelfcpaa
open Go.RowKit TW

theorem walk_FnExactSpiralWord (o : Int) (_ : (Lit.int .i64 o).wf = true) (r : Int) (_ : (Lit.int .i64 r).wf = true) (w : World) :
    Calls Try.prog 5 #[.int .i64 o, .int .i64 r] w fun e w' => e = .returned (.bool true) ∧ Below w.heap.size w w' := by
  go_enter Try.func5, Try.ntmps5
  go_wp2_with (first
    | (go_at_call 11; refine (specSpiralWord_c _ _ _).mono ?_; rintro e w' ⟨rfl, rfl⟩)
    | (go_at_call 12; refine (implSpiralWord_c _ _ _).mono ?_; rintro e w' ⟨rfl, hb⟩))
  go_ret
  exact ⟨rfl, hb⟩
end Go.Proofs.Ytjbfohdnelfcpaa
