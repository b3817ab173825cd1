/- Contracts: the draws of spirals. -/
import Derived.Test.YtbeacmealippmaaDoorPickS
namespace Go.Proofs.YtbeacmealippmaaDoor
open Go.RowKit

/-- Two numbers that are not great; the reader's block and new ones alone have turned. -/
def TwoInts (rb : Nat) (w : World) (e : Ending) (w' : World) : Prop :=
  ∃ x y : Int, e = .returned (.tuple #[.int .i64 x, .int .i64 y]) ∧ -1000000 ≤ x ∧ x ≤ 1000000 ∧ -1000000 ≤ y ∧ y ≤ 1000000 ∧ w.grownBy w' (some rb)

set_option maxHeartbeats 2000000 in
theorem l20Spiral_c (rb : Nat) (w : World) (h : RdS w rb 10) :
    Calls Tryd.prog 29 #[.pointer (some ⟨rb, 0, none⟩)] w (TwoInts rb w) := by
  go_enter Tryd.func29, Tryd.ntmps29
  go_upto_region 2 with (go_at_call 32; refine (pick_s _ _ _ _ (by assumption) (by omega) (by omega)).mono ?_; rintro e w' ⟨v, rfl, hv0, hv1, hr, hg⟩)
  go_cut [5] (fun s5 wx => ∃ x : Int, s5 = .int .i64 x ∧ 0 ≤ x ∧ x < 256 ∧ RdS wx rb 20 ∧ w.grownBy wx (some rb))
  case first =>
    obtain rfl | rfl | rfl | rfl | rfl | rfl | rfl | rfl | rfl : v = 0 ∨ v = 1 ∨ v = 2 ∨ v = 3 ∨ v = 4 ∨ v = 5 ∨ v = 6 ∨ v = 7 ∨ v = 8 := by omega
    all_goals
      go_region_with (go_at_call 32; refine (pick_s _ _ _ _ (by assumption) (by omega) (by omega)).mono ?_; rintro e w2 ⟨u, rfl, hu0, hu1, hr2, hg2⟩)
      all_goals (go_wp2_with fail; go_meet; exact ⟨_, rfl, by omega, by omega, hr2.mono (by omega), (grown_drew hg).trans hg2⟩)
  case rest =>
    obtain ⟨x, rfl, hx0, hx1, hrx, hgx⟩ := hcut
    clear hr hg h
    go_wp2_with (go_at_call 32; refine (pick_s _ _ _ _ (by assumption) (by omega) (by omega)).mono ?_; rintro e w2 ⟨u, rfl, hu0, hu1, hr2, hg2⟩; have hgx := hgx.trans hg2; clear hg2)
    all_goals go_ret2
    all_goals exact ⟨_, _, rfl, by omega, by omega, by omega, by omega, hgx⟩

/-- Two numbers that are not great; what was there has not turned. -/
def DrawnTwo (w : World) (e : Ending) (w' : World) : Prop :=
  ∃ x y : Int, e = .returned (.tuple #[.int .i64 x, .int .i64 y]) ∧ -1000000 ≤ x ∧ x ≤ 1000000 ∧ -1000000 ≤ y ∧ y ≤ 1000000 ∧ Below w.heap.size w w'

theorem TwoInts.drawn {rb : Nat} {w w1 w' : World} {e : Ending} (h : TwoInts rb w1 e w') (hb : Below w.heap.size w w1) (hr : w.heap.size ≤ rb) : DrawnTwo w e w' := by
  obtain ⟨x, y, h1, h2, h3, h4, h5, h6⟩ := h
  exact ⟨x, y, h1, h2, h3, h4, h5, hb.trans (below_of_grown h6 hb.size hr)⟩


theorem drawSpiralRounds_c (a : Option Addr) (len cap : Nat) (zs : List Int) (w : World) (h : IsRow .u8 w a len cap zs) :
    Calls Tryd.prog 12 #[.slice a len cap] w (DrawnTwo w) := by
  go_enter Tryd.func12, Tryd.ntmps12
  go_wp2_with (first | (go_at_call 30; refine (open_s _ _ _ _ _ h).mono ?_; rintro e w1 ⟨rb, rfl, hrb, hrd, hb1⟩) | (go_at_call 29; refine (l20Spiral_c _ _ (hrd.mono (by omega))).mono ?_; rintro e w2 ⟨x, y, rfl, hx0, hx1, hy0, hy1, hg2⟩))
  go_ret2
  exact TwoInts.drawn ⟨_, _, rfl, hx0, hx1, hy0, hy1, hg2⟩ hb1 hrb

end Go.Proofs.YtbeacmealippmaaDoor
