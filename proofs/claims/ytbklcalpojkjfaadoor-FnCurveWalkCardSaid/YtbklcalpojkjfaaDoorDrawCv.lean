/- Contract: the draw of FnCurveWalk. -/
import Derived.Test.YtbklcalpojkjfaaDoorPickS
import Derived.Deep.AppendLies
namespace Go.Proofs.YtbklcalpojkjfaaDoor
open Go.RowKit

set_option maxHeartbeats 2000000 in
theorem drawCurveWalk_c (a : Option Addr) (len cap : Nat) (zs : List Int) (w : World) (h : IsRow .u8 w a len cap zs) :
    Calls Tryd.prog 7 #[.slice a len cap] w fun e w' => ∃ x : Int, e = .returned (.int .i64 x) ∧ -1 ≤ x ∧ x ≤ 6 ∧ Below w.heap.size w w' := by
  go_enter Tryd.func7, Tryd.ntmps7
  go_wp2_with fail
  refine (open_s _ _ _ _ _ h).mono ?_
  rintro e w1 ⟨rb, rfl, hrb, hrd, hb1⟩
  clear h
  go_upto_region 2 with fail
  go_wp2_with (go_loud (go_at_call 20; refine (pick_s _ _ _ _ (hrd.alloc _) (by omega) (by omega)).mono ?_; rintro e w2 ⟨v, rfl, hv0, hv1, hr, hg⟩; have hq := World.news_of_block (w := w2) (B := w1.heap.size) (cs := #[.int .i64 0, .int .i64 1, .int .i64 2, .int .i64 3, .int .i64 4, .int .i64 2, .int .i64 3, .int .i64 (-1), .int .i64 6]) (t := 3) (fr := (0, 0)) (by rw [hg.block _ (by simp) (by simp; have := hrd.lt; omega)]; exact heap_alloc_new w1 _); have q0 : w2.cell? ⟨w1.heap.size, 0, none⟩ = some (.int .i64 0) := hq 0 _ rfl; have q1 : w2.cell? ⟨w1.heap.size, 1, none⟩ = some (.int .i64 1) := hq 1 _ rfl; have q2 : w2.cell? ⟨w1.heap.size, 2, none⟩ = some (.int .i64 2) := hq 2 _ rfl; have q3 : w2.cell? ⟨w1.heap.size, 3, none⟩ = some (.int .i64 3) := hq 3 _ rfl; have q4 : w2.cell? ⟨w1.heap.size, 4, none⟩ = some (.int .i64 4) := hq 4 _ rfl; have q5 : w2.cell? ⟨w1.heap.size, 5, none⟩ = some (.int .i64 2) := hq 5 _ rfl; have q6 : w2.cell? ⟨w1.heap.size, 6, none⟩ = some (.int .i64 3) := hq 6 _ rfl; have q7 : w2.cell? ⟨w1.heap.size, 7, none⟩ = some (.int .i64 (-1)) := hq 7 _ rfl; have q8 : w2.cell? ⟨w1.heap.size, 8, none⟩ = some (.int .i64 6) := hq 8 _ rfl; clear hq; obtain rfl | rfl | rfl | rfl | rfl | rfl | rfl | rfl | rfl : v = 0 ∨ v = 1 ∨ v = 2 ∨ v = 3 ∨ v = 4 ∨ v = 5 ∨ v = 6 ∨ v = 7 ∨ v = 8 := by omega))
  all_goals go_ret
  all_goals exact ⟨_, rfl, by omega, by omega, hb1.trans (below_of_grown (World.grownBy_alloc _ _ _ |>.trans hg) hb1.size hrb)⟩
end Go.Proofs.YtbklcalpojkjfaaDoor
