/- Contracts: draws of one number. -/
import Derived.Test.YtbeacmealippmaaDoorPickS
namespace Go.Proofs.YtbeacmealippmaaDoor
open Go.RowKit

/-- A number from 0 to 10; what was there has not turned. -/
def DrawnTen (w : World) (e : Ending) (w' : World) : Prop := ∃ x : Int, e = .returned (.int .i64 x) ∧ 0 ≤ x ∧ x ≤ 10 ∧ Below w.heap.size w w'

theorem drawGoingOff_c (a : Option Addr) (len cap : Nat) (zs : List Int) (w : World) (h : IsRow .u8 w a len cap zs) :
    Calls Tryd.prog 20 #[.slice a len cap] w (DrawnTen w) := by
  go_enter Tryd.func20, Tryd.ntmps20
  go_wp2_with (first | (go_at_call 30; refine (open_s _ _ _ _ _ h).mono ?_; rintro e w1 ⟨rb, rfl, hrb, hrd, hb1⟩) | (go_at_call 32; refine (pick_s _ _ _ _ (by assumption) (by omega) (by omega)).mono ?_; rintro e w2 ⟨v, rfl, hv0, hv1, hr, hg⟩))
  go_ret
  exact ⟨_, rfl, by omega, by omega, hb1.trans (below_of_grown hg hb1.size hrb)⟩
end Go.Proofs.YtbeacmealippmaaDoor
