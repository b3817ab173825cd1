/- Contracts: the letter of a step. -/
import Derived.Test.YtbklcalpojkjfaaDoorDirs
import Derived.Test.YtbklcalpojkjfaaDoorL1In
import Derived.Test.YtbklcalpojkjfaaDoorPairEq
import Derived.LoopN
import Derived.Laws.Rows
import Derived.Outline
namespace Go.Proofs.YtbklcalpojkjfaaDoor
open Go.RowKit

theorem dir0 (w : World) : (Instr.index 53 (.agg #[.int .i64 1, .int .i64 0, .int .i64 0, .int .i64 1, .int .i64 (-1), .int .i64 0, .int .i64 0, .int .i64 (-1)]) (.int .i64 0)).run Tryd.prog w = .ok (.agg #[.int .i64 1, .int .i64 0]) w := by kernel_rfl
theorem dir1 (w : World) : (Instr.index 53 (.agg #[.int .i64 1, .int .i64 0, .int .i64 0, .int .i64 1, .int .i64 (-1), .int .i64 0, .int .i64 0, .int .i64 (-1)]) (.int .i64 1)).run Tryd.prog w = .ok (.agg #[.int .i64 0, .int .i64 1]) w := by kernel_rfl
theorem dir2 (w : World) : (Instr.index 53 (.agg #[.int .i64 1, .int .i64 0, .int .i64 0, .int .i64 1, .int .i64 (-1), .int .i64 0, .int .i64 0, .int .i64 (-1)]) (.int .i64 2)).run Tryd.prog w = .ok (.agg #[.int .i64 (-1), .int .i64 0]) w := by kernel_rfl
theorem dir3 (w : World) : (Instr.index 53 (.agg #[.int .i64 1, .int .i64 0, .int .i64 0, .int .i64 1, .int .i64 (-1), .int .i64 0, .int .i64 0, .int .i64 (-1)]) (.int .i64 3)).run Tryd.prog w = .ok (.agg #[.int .i64 0, .int .i64 (-1)]) w := by kernel_rfl

set_option maxHeartbeats 1000000 in
theorem letterTo_e (w : World) (hd : Dirs w) :
    Calls Tryd.prog 17 #[.int .i64 1, .int .i64 0] w fun e w' => e = .returned (.int .u8 101) ∧ Below w.heap.size w w' := by
  have hs := hd.size
  obtain ⟨c0, c1, c2, c3, c4, c5, c6, c7⟩ := hd.cells
  have i0 := @dir0
  have i1 := @dir1
  have i2 := @dir2
  have i3 := @dir3
  have heq := @pairEq
  clear hd
  go_enter Tryd.func17, Tryd.ntmps17
  go_wp2_with fail
  clear c0 c1 c2 c3 c4 c5 c6 c7 hs
  refine wp_loop_rounds 1 ?_
  rw [rounds_succ]
  go_wp2_with fail
  go_ret
  exact ⟨rfl, by (repeat (first | exact Below.refl _ _ | refine Below.alloc ?_ (by simp <;> omega) _ | refine Below.setCell ?_ (by simp <;> omega) _ | refine Below.drew ?_ | refine below_drewN ?_ _))⟩

set_option maxHeartbeats 1000000 in
theorem letterTo_n (w : World) (hd : Dirs w) :
    Calls Tryd.prog 17 #[.int .i64 0, .int .i64 1] w fun e w' => e = .returned (.int .u8 110) ∧ Below w.heap.size w w' := by
  have hs := hd.size
  obtain ⟨c0, c1, c2, c3, c4, c5, c6, c7⟩ := hd.cells
  have i0 := @dir0
  have i1 := @dir1
  have i2 := @dir2
  have i3 := @dir3
  have heq := @pairEq
  clear hd
  go_enter Tryd.func17, Tryd.ntmps17
  go_wp2_with fail
  clear c0 c1 c2 c3 c4 c5 c6 c7 hs
  refine wp_loop_rounds 2 ?_
  rw [rounds_succ]
  go_wp2_with fail
  rw [rounds_succ]
  go_wp2_with fail
  go_ret
  exact ⟨rfl, by (repeat (first | exact Below.refl _ _ | refine Below.alloc ?_ (by simp <;> omega) _ | refine Below.setCell ?_ (by simp <;> omega) _ | refine Below.drew ?_ | refine below_drewN ?_ _))⟩

set_option maxHeartbeats 1000000 in
theorem letterTo_w (w : World) (hd : Dirs w) :
    Calls Tryd.prog 17 #[.int .i64 (-1), .int .i64 0] w fun e w' => e = .returned (.int .u8 119) ∧ Below w.heap.size w w' := by
  have hs := hd.size
  obtain ⟨c0, c1, c2, c3, c4, c5, c6, c7⟩ := hd.cells
  have i0 := @dir0
  have i1 := @dir1
  have i2 := @dir2
  have i3 := @dir3
  have heq := @pairEq
  clear hd
  go_enter Tryd.func17, Tryd.ntmps17
  go_wp2_with fail
  clear c0 c1 c2 c3 c4 c5 c6 c7 hs
  refine wp_loop_rounds 3 ?_
  rw [rounds_succ]
  go_wp2_with fail
  rw [rounds_succ]
  go_wp2_with fail
  rw [rounds_succ]
  go_wp2_with fail
  go_ret
  exact ⟨rfl, by (repeat (first | exact Below.refl _ _ | refine Below.alloc ?_ (by simp <;> omega) _ | refine Below.setCell ?_ (by simp <;> omega) _ | refine Below.drew ?_ | refine below_drewN ?_ _))⟩

set_option maxHeartbeats 1000000 in
theorem letterTo_s (w : World) (hd : Dirs w) :
    Calls Tryd.prog 17 #[.int .i64 0, .int .i64 (-1)] w fun e w' => e = .returned (.int .u8 115) ∧ Below w.heap.size w w' := by
  have hs := hd.size
  obtain ⟨c0, c1, c2, c3, c4, c5, c6, c7⟩ := hd.cells
  have i0 := @dir0
  have i1 := @dir1
  have i2 := @dir2
  have i3 := @dir3
  have heq := @pairEq
  clear hd
  go_enter Tryd.func17, Tryd.ntmps17
  go_wp2_with fail
  clear c0 c1 c2 c3 c4 c5 c6 c7 hs
  refine wp_loop_rounds 4 ?_
  rw [rounds_succ]
  go_wp2_with fail
  rw [rounds_succ]
  go_wp2_with fail
  rw [rounds_succ]
  go_wp2_with fail
  rw [rounds_succ]
  go_wp2_with fail
  go_ret
  exact ⟨rfl, by (repeat (first | exact Below.refl _ _ | refine Below.alloc ?_ (by simp <;> omega) _ | refine Below.setCell ?_ (by simp <;> omega) _ | refine Below.drew ?_ | refine below_drewN ?_ _))⟩
end Go.Proofs.YtbklcalpojkjfaaDoor
