/- Contracts: halvesOk, cellOk, gathered, spread, impl.WovenOf, impl.UnwovenOf. -/
import Derived.Test.YtbklcalpojkjfaaDoorL1In
import Derived.Test.YtbklcalpojkjfaaDoorBitsP
import Derived.Outline
namespace Go.Proofs.YtbklcalpojkjfaaDoor
open Go.RowKit TW

theorem halvesOk_c (h : Int) (w : World) :
    Calls Tryd.prog 14 #[.int .i64 h] w fun e w' => e = .returned (.bool (hvOk h)) ∧ w = w' := by
  by_cases h1 : 0 ≤ h
  · go_enter Tryd.func14, Tryd.ntmps14
    go_wp2
    go_ret
    exact ⟨ret_bool (by unfold hvOk; simp; omega), rfl⟩
  · go_enter Tryd.func14, Tryd.ntmps14
    go_wp2
    go_ret
    exact ⟨ret_bool (by unfold hvOk; simp; omega), rfl⟩


end Go.Proofs.YtbklcalpojkjfaaDoor
