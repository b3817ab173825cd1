/- Contracts: the turtle's steps. -/
import Derived.Test.YtkfmppjljdhogaaDoorDirs
import Derived.Test.YtkfmppjljdhogaaDoorL1In
namespace Go.Proofs.YtkfmppjljdhogaaDoor
open Go.RowKit

/-- What a step adds, by the direction. -/
def dxI (l : Int) : Int := if l = 0 then 1 else if l = 2 then -1 else 0
def dyI (l : Int) : Int := if l = 1 then 1 else if l = 3 then -1 else 0
abbrev TurtleV (x y l : Int) : Value := .agg #[.int .i64 x, .int .i64 y, .int .i64 l]
theorem ret_t {x y l x' y' l' : Int} (h : x = x') (g : y = y') (f : l = l') : Ending.returned (TurtleV x y l) = .returned (TurtleV x' y' l') := by rw [h, g, f]

theorem l1East_c (l : Int) (hl : 0 ≤ l ∧ l < 4) (w : World) :
    Calls Tryd.prog 53 #[.int .i64 l] w fun e w' => e = .returned (.int .i64 (dxI l)) ∧ Below w.heap.size w w' := by
  obtain rfl | rfl | rfl | rfl : l = 0 ∨ l = 1 ∨ l = 2 ∨ l = 3 := by omega
  all_goals
    go_enter Tryd.func53, Tryd.ntmps53
    go_wp2
    go_ret
    exact ⟨rfl, by (repeat (first | exact Below.refl _ _ | refine Below.alloc ?_ (by simp <;> omega) _ | refine Below.setCell ?_ (by simp <;> omega) _ | refine Below.drew ?_ | refine below_drewN ?_ _))⟩
theorem l1North_c (l : Int) (hl : 0 ≤ l ∧ l < 4) (w : World) :
    Calls Tryd.prog 54 #[.int .i64 l] w fun e w' => e = .returned (.int .i64 (dyI l)) ∧ Below w.heap.size w w' := by
  obtain rfl | rfl | rfl | rfl : l = 0 ∨ l = 1 ∨ l = 2 ∨ l = 3 := by omega
  all_goals
    go_enter Tryd.func54, Tryd.ntmps54
    go_wp2
    go_ret
    exact ⟨rfl, by (repeat (first | exact Below.refl _ _ | refine Below.alloc ?_ (by simp <;> omega) _ | refine Below.setCell ?_ (by simp <;> omega) _ | refine Below.drew ?_ | refine below_drewN ?_ _))⟩
end Go.Proofs.YtkfmppjljdhogaaDoor
