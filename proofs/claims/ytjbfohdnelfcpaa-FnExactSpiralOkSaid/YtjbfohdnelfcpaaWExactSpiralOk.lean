/- The walk of FnExactSpiralOk. -/
import Derived.Test.YtjbfohdnelfcpaaSp1
namespace Go.Proofs.Ytjbfohdnelfcpaa
open Go.RowKit

theorem walk_FnExactSpiralOk (o : Int) (_ : (Lit.int .i64 o).wf = true) (r : Int) (_ : (Lit.int .i64 r).wf = true) (w : World) :
    Calls Try.prog 3 #[.int .i64 o, .int .i64 r] w fun e w' => e = .returned (.bool true) ∧ Below w.heap.size w w' := by
  go_enter Try.func3, Try.ntmps3
  go_wp2_with (first
    | (go_at_call 7; refine (specSpiralOk_c _ _ _).mono ?_; rintro e w' ⟨rfl, rfl⟩)
    | (go_at_call 8; refine (implSpiralOk_c _ _ _).mono ?_; rintro e w' ⟨rfl, rfl⟩))
  go_ret
  exact ⟨rfl, Below.refl _ _⟩
end Go.Proofs.Ytjbfohdnelfcpaa
