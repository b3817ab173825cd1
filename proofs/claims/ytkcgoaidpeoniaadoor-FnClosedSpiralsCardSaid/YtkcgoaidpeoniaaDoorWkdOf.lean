/- Contracts: WalkedFrom and WalkedOf at words that lead back. -/
import Derived.Test.YtkcgoaidpeoniaaDoorTurtle3
import Derived.Test.YtkcgoaidpeoniaaDoorClosedQ
namespace Go.Proofs.YtkcgoaidpeoniaaDoor
open Go.RowKit TW

set_option maxHeartbeats 1000000 in
theorem turtleOk_zero (w : World) :
    Calls Tryd.prog 27 #[TV (0, 0, 0)] w fun e w' => e = .returned (.bool true) ∧ Below w.heap.size w w' := by
  go_enter Tryd.func27, Tryd.ntmps27
  go_wp2_with fail
  go_ret
  exact ⟨rfl, (Below.refl _ _).alloc (Nat.le_refl _) _⟩

set_option maxHeartbeats 1000000 in
theorem walkedFrom_zero (s : ByteArray) (hs : s.size ≤ 64) (hok : wordOk s = true) (hz : tw (0, 0, 0) s.data.toList = (0, 0, 0)) (w : World) (hd : Dirs w) :
    Calls Tryd.prog 18 #[TV (0, 0, 0), .string s] w fun e w' => e = .returned (.tuple #[TV (0, 0, 0), .bool true]) ∧ Below w.heap.size w w' := by
  have HD := hid hd
  have HZ := hid hz
  clear hd hz
  go_enter Tryd.func18, Tryd.ntmps18
  go_wp2_with fail
  refine (turtleOk_zero _).mono ?_
  rintro e w1 ⟨rfl, hb⟩
  have Q0 : Box3 w.heap.size (.int .i64 0) (.int .i64 0) (.int .i64 0) w1 := Box3.behind (by (refine ⟨?_, ?_, ?_, ?_, ?_, ?_, ?_⟩ <;> simp); omega) hb
  have Q1 : Box3 (w.heap.size + 1) (.int .i64 0) (.int .i64 0) (.int .i64 0) w1 := Box3.behind (by refine ⟨?_, ?_, ?_, ?_, ?_, ?_, ?_⟩ <;> simp) hb
  have HL : Hid (Below w.heap.size w w1) := hid (Below.trans (by (repeat (first | exact Below.refl _ _ | refine Below.alloc ?_ (by simp <;> omega) _ | refine Below.setCell ?_ (by simp <;> omega) _ | refine Below.drew ?_ | refine below_drewN ?_ _))) (hb.mono (by simp <;> omega)))
  have HQ0 := hid Q0
  have HQ1 := hid Q1
  clear hb Q0 Q1
  obtain ⟨c0, c1, c2, f0, f1, f2, hz0⟩ := HQ0.out
  go_wp2_with (go_at_call 22; refine (wordOk_c _ (by unfold maxLen; omega) _).mono ?_; rintro e w' ⟨rfl, rfl⟩; rw [hok])
  refine (walked_c (0, 0, 0) s (by unfold TIn; simp) (by omega) _ (HD.out.below HL.out)).mono ?_
  rintro e w2 ⟨rfl, hb⟩
  rw [HZ.out]
  have HL2 := hid (HL.out.trans (hb.mono HL.out.size))
  have HP1 := hid (HQ1.out.behind hb)
  clear hb c0 c1 c2 f0 f1 f2 hz0
  obtain ⟨c0, c1, c2, f0, f1, f2, hz0⟩ := HP1.out
  go_wp2_with fail
  refine (turtleOk_zero _).mono ?_
  rintro e w3 ⟨rfl, hb⟩
  have hs2 := HP1.out.2.2.2.2.2.2
  have HT : Hid (Box3 w2.heap.size (.int .i64 0) (.int .i64 0) (.int .i64 0) w3) := hid (Box3.behind (by refine ⟨?_, ?_, ?_, ?_, ?_, ?_, ?_⟩ <;> simp) hb)
  have HQ : Hid (Box3 (w.heap.size + 1) (.int .i64 0) (.int .i64 0) (.int .i64 0) w3) := hid (Box3.behind (by (repeat (refine Box3.put ?_ (by simp; omega) _)); exact HP1.out.behind ((Below.refl _ _).alloc (Nat.le_refl _) _)) hb)
  have HL3 : Hid (Below w.heap.size w w3) := hid (Below.trans (by (repeat (first | exact HL2.out | refine Below.alloc ?_ (by have := HL2.out.size; simp <;> omega) _ | refine Below.setCell ?_ (by have := HL2.out.size; simp <;> omega) _ | refine Below.drew ?_ | refine below_drewN ?_ _))) (hb.mono (by have := HL2.out.size; simp; omega)))
  clear hb c0 c1 c2 f0 f1 f2 hz0 hs2
  obtain ⟨c0, c1, c2, f0, f1, f2, hz0⟩ := HT.out
  obtain ⟨d0, d1, d2, g0, g1, g2, hz1⟩ := HQ.out
  go_wp2_with fail
  have HS := HQ.out.set (.int .i64 0) (.int .i64 0) (.int .i64 0)
  obtain ⟨e0, e1, e2, _, _, _, _⟩ := HS
  have hl := HL3.out.size
  refine bodyPost_ret (v := .tuple #[TV (0, 0, 0), .bool true]) ?_ rfl ⟨rfl, ?_⟩
  · simp [results, Tryd.results18, go_sem, e0, e1, e2]
  · exact ((HL3.out.setCell (by simp) _).setCell (by simp) _).setCell (by simp) _

set_option maxHeartbeats 1000000 in
theorem walkedOf_zero (s : ByteArray) (hs : s.size ≤ 64) (hok : wordOk s = true) (hz : tw (0, 0, 0) s.data.toList = (0, 0, 0)) (w : World) (hd : Dirs w) :
    Calls Tryd.prog 8 #[.string s] w fun e w' => e = .returned (.tuple #[TV (0, 0, 0), .bool true]) ∧ Below w.heap.size w w' := by
  have HD := hid hd
  have HZ := hid hz
  clear hd hz
  go_enter Tryd.func8, Tryd.ntmps8
  go_wp2_with fail
  refine (walkedFrom_zero s hs hok HZ.out _ (HD.out.below ((Below.refl _ _).alloc (Nat.le_refl _) _))).mono ?_
  rintro e w1 ⟨rfl, hb⟩
  have HQ : Hid (Box3 w.heap.size (.int .i64 0) (.int .i64 0) (.int .i64 0) w1) := hid (Box3.behind (by refine ⟨?_, ?_, ?_, ?_, ?_, ?_, ?_⟩ <;> simp) hb)
  have HL : Hid (Below w.heap.size w w1) := hid (Below.trans ((Below.refl _ _).alloc (Nat.le_refl _) _) (hb.mono (by simp)))
  clear hb
  obtain ⟨d0, d1, d2, g0, g1, g2, hz1⟩ := HQ.out
  go_wp2_with fail
  have HS := HQ.out.set (.int .i64 0) (.int .i64 0) (.int .i64 0)
  obtain ⟨e0, e1, e2, _, _, _, _⟩ := HS
  refine bodyPost_ret (v := .tuple #[TV (0, 0, 0), .bool true]) ?_ rfl ⟨rfl, ?_⟩
  · simp [results, Tryd.results8, go_sem, e0, e1, e2]
  · exact ((HL.out.setCell (by simp) _).setCell (by simp) _).setCell (by simp) _
end Go.Proofs.YtkcgoaidpeoniaaDoor
