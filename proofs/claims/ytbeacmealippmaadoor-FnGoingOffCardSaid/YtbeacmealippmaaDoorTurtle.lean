/- Contracts: the turtle's steps. -/
import Derived.Test.YtbeacmealippmaaDoorDirs
import Derived.Test.YtbeacmealippmaaDoorL1In
namespace Go.Proofs.YtbeacmealippmaaDoor
open Go.RowKit

/-- What a step adds, by the direction. -/
def dxI (l : Int) : Int := if l = 0 then 1 else if l = 2 then -1 else 0
def dyI (l : Int) : Int := if l = 1 then 1 else if l = 3 then -1 else 0
abbrev TurtleV (x y l : Int) : Value := .agg #[.int .i64 x, .int .i64 y, .int .i64 l]
theorem ret_t {x y l x' y' l' : Int} (h : x = x') (g : y = y') (f : l = l') : Ending.returned (TurtleV x y l) = .returned (TurtleV x' y' l') := by rw [h, g, f]

theorem forward_c (x y l : Int) (hx : -1000000 ≤ x ∧ x ≤ 1000000) (hy : -1000000 ≤ y ∧ y ≤ 1000000) (hl : 0 ≤ l ∧ l < 4) (w : World) (hd : Dirs w) :
    Calls Tryd.prog 43 #[TurtleV x y l] w fun e w' => e = .returned (TurtleV (x + dxI l) (y + dyI l) l) ∧ Below w.heap.size w w' := by
  have hs := hd.size
  obtain ⟨c0, c1, c2, c3, c4, c5, c6, c7⟩ := hd.cells
  obtain ⟨hx1, hx2⟩ := hx
  obtain ⟨hy1, hy2⟩ := hy
  clear hd
  obtain rfl | rfl | rfl | rfl : l = 0 ∨ l = 1 ∨ l = 2 ∨ l = 3 := by omega
  all_goals
    go_enter Tryd.func43, Tryd.ntmps43
    go_wp2
    refine bodyPost_ret ?_ rfl ⟨rfl, by (repeat (first | exact Below.refl _ _ | refine Below.alloc ?_ (by simp <;> omega) _ | refine Below.setCell ?_ (by simp <;> omega) _ | refine Below.drew ?_ | refine below_drewN ?_ _))⟩
    simp [results, Tryd.results43, go_sem, dxI, dyI]
    try omega

set_option maxHeartbeats 2000000 in
theorem turned_c (x y l a : Int) (hl : 0 ≤ l ∧ l < 4) (ha : 0 ≤ a ∧ a < 4) (w : World) :
    Calls Tryd.prog 44 #[TurtleV x y l, .int .i64 a] w fun e w' => e = .returned (TurtleV x y ((l + a) % 4)) ∧ Below w.heap.size w w' := by
  obtain rfl | rfl | rfl | rfl : l = 0 ∨ l = 1 ∨ l = 2 ∨ l = 3 := by omega
  all_goals
    obtain rfl | rfl | rfl | rfl : a = 0 ∨ a = 1 ∨ a = 2 ∨ a = 3 := by omega
  all_goals
    go_enter Tryd.func44, Tryd.ntmps44
    go_wp2
    refine bodyPost_ret ?_ rfl ⟨rfl, by (repeat (first | exact Below.refl _ _ | refine Below.alloc ?_ (by simp <;> omega) _ | refine Below.setCell ?_ (by simp <;> omega) _ | refine Below.drew ?_ | refine below_drewN ?_ _))⟩
    simp [results, Tryd.results44, go_sem]

theorem l1East_c (l : Int) (hl : 0 ≤ l ∧ l < 4) (w : World) :
    Calls Tryd.prog 39 #[.int .i64 l] w fun e w' => e = .returned (.int .i64 (dxI l)) ∧ Below w.heap.size w w' := by
  obtain rfl | rfl | rfl | rfl : l = 0 ∨ l = 1 ∨ l = 2 ∨ l = 3 := by omega
  all_goals
    go_enter Tryd.func39, Tryd.ntmps39
    go_wp2
    go_ret
    exact ⟨rfl, by (repeat (first | exact Below.refl _ _ | refine Below.alloc ?_ (by simp <;> omega) _ | refine Below.setCell ?_ (by simp <;> omega) _ | refine Below.drew ?_ | refine below_drewN ?_ _))⟩
theorem l1North_c (l : Int) (hl : 0 ≤ l ∧ l < 4) (w : World) :
    Calls Tryd.prog 40 #[.int .i64 l] w fun e w' => e = .returned (.int .i64 (dyI l)) ∧ Below w.heap.size w w' := by
  obtain rfl | rfl | rfl | rfl : l = 0 ∨ l = 1 ∨ l = 2 ∨ l = 3 := by omega
  all_goals
    go_enter Tryd.func40, Tryd.ntmps40
    go_wp2
    go_ret
    exact ⟨rfl, by (repeat (first | exact Below.refl _ _ | refine Below.alloc ?_ (by simp <;> omega) _ | refine Below.setCell ?_ (by simp <;> omega) _ | refine Below.drew ?_ | refine below_drewN ?_ _))⟩
end Go.Proofs.YtbeacmealippmaaDoor
