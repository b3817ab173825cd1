/- The walks of FnExactUnwovenOf, FnExactWovenOf, FnExactEastOf. -/
import Derived.Test.YtbklcalpojkjfaaBits3
namespace Go.Proofs.Ytbklcalpojkjfaa
open Go.RowKit TW

theorem walk_FnExactUnwovenOf (h : Int) (_ : (Lit.int .i64 h).wf = true) (n : Int) (_ : (Lit.int .i64 n).wf = true) (w : World) :
    Calls Try.prog 3 #[.int .i64 h, .int .i64 n] w fun e w' => e = .returned (.bool true) ∧ Below w.heap.size w w' := by
  go_enter Try.func3, Try.ntmps3
  go_wp2_with (first
    | (go_at_call 17; refine (specUnwoven_c _ _ _).mono ?_; rintro e w' ⟨rfl, rfl⟩)
    | (go_at_call 18; refine (implUnwoven_c _ _ _).mono ?_; rintro e w' ⟨rfl, rfl⟩))
  go_ret
  exact ⟨rfl, Below.refl _ _⟩

theorem walk_FnExactWovenOf (h : Int) (_ : (Lit.int .i64 h).wf = true) (x : Int) (_ : (Lit.int .i64 x).wf = true) (y : Int) (_ : (Lit.int .i64 y).wf = true) (w : World) :
    Calls Try.prog 4 #[.int .i64 h, .int .i64 x, .int .i64 y] w fun e w' => e = .returned (.bool true) ∧ Below w.heap.size w w' := by
  go_enter Try.func4, Try.ntmps4
  go_wp2_with (first
    | (go_at_call 19; refine (specWoven_c _ _ _ _).mono ?_; rintro e w' ⟨rfl, d, rfl⟩)
    | (go_at_call 20; refine (implWoven_c _ _ _ _).mono ?_; rintro e w' ⟨rfl, rfl⟩))
  go_ret
  exact ⟨rfl, below_drewN (Below.refl _ _) _⟩

theorem walk_FnExactEastOf (h : Int) (_ : (Lit.int .i64 h).wf = true) (n : Int) (_ : (Lit.int .i64 n).wf = true) (w : World) :
    Calls Try.prog 5 #[.int .i64 h, .int .i64 n] w fun e w' => e = .returned (.bool true) ∧ Below w.heap.size w w' := by
  go_enter Try.func5, Try.ntmps5
  go_wp2_with (first
    | (go_at_call 21; refine (specEast_c _ _ _).mono ?_; rintro e w' ⟨rfl, d, rfl⟩)
    | (go_at_call 22; refine (implEast_c _ _ _).mono ?_; rintro e w' ⟨rfl, rfl⟩))
  go_ret
  exact ⟨rfl, below_drewN (Below.refl _ _) _⟩
end Go.Proofs.Ytbklcalpojkjfaa
