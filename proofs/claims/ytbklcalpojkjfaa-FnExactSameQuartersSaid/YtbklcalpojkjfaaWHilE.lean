/- The walks of FnExactCellOf, FnExactNumberOf. -/
import Derived.Test.YtbklcalpojkjfaaHil4
import Derived.Test.YtbklcalpojkjfaaHil5
import Derived.Test.YtbklcalpojkjfaaHil6
import Derived.Test.YtbklcalpojkjfaaBits3
namespace Go.Proofs.Ytbklcalpojkjfaa
open Go.RowKit TW

theorem walk_FnExactCellOf (h : Int) (_ : (Lit.int .i64 h).wf = true) (n : Int) (_ : (Lit.int .i64 n).wf = true) (w : World) :
    Calls Try.prog 7 #[.int .i64 h, .int .i64 n] w fun e w' => e = .returned (.bool true) ∧ Below w.heap.size w w' := by
  go_enter Try.func7, Try.ntmps7
  go_wp2_with (first
    | (go_at_call 25; refine (specCell_c _ _ _).mono ?_; rintro e w' ⟨rfl, rfl⟩)
    | (go_at_call 26; refine (implCell_c _ _ _).mono ?_; rintro e w' ⟨rfl, rfl⟩))
  go_ret
  exact ⟨rfl, Below.refl _ _⟩

theorem walk_FnExactNumberOf (h : Int) (_ : (Lit.int .i64 h).wf = true) (x : Int) (_ : (Lit.int .i64 x).wf = true) (y : Int) (_ : (Lit.int .i64 y).wf = true) (w : World) :
    Calls Try.prog 6 #[.int .i64 h, .int .i64 x, .int .i64 y] w fun e w' => e = .returned (.bool true) ∧ Below w.heap.size w w' := by
  go_enter Try.func6, Try.ntmps6
  go_wp2_with (first
    | (go_at_call 23; refine (specNumber_c _ _ _ _).mono ?_; rintro e w' ⟨rfl, rfl⟩)
    | (go_at_call 24; refine (implNumber_c _ _ _ _).mono ?_; rintro e w' ⟨rfl, d, rfl⟩))
  go_ret
  exact ⟨rfl, below_drewN (Below.refl _ _) _⟩

theorem walk_FnExactSameQuarters (h : Int) (_ : (Lit.int .i64 h).wf = true) (a : Int) (_ : (Lit.int .i64 a).wf = true) (b : Int) (_ : (Lit.int .i64 b).wf = true) (l : Int) (_ : (Lit.int .i64 l).wf = true) (w : World) :
    Calls Try.prog 10 #[.int .i64 h, .int .i64 a, .int .i64 b, .int .i64 l] w fun e w' => e = .returned (.bool true) ∧ Below w.heap.size w w' := by
  go_enter Try.func10, Try.ntmps10
  go_wp2_with (first
    | (go_at_call 30; refine (specSame_c _ _ _ _ _).mono ?_; rintro e w' ⟨rfl, d, rfl⟩)
    | (go_at_call 31; refine (implSame_c _ _ _ _ _).mono ?_; rintro e w' ⟨rfl, d, rfl⟩))
  go_ret
  first | exact ⟨rfl, below_drewN (Below.refl _ _) _⟩ | exact ⟨rfl, below_drewN (below_drewN (Below.refl _ _) _) _⟩
end Go.Proofs.Ytbklcalpojkjfaa
