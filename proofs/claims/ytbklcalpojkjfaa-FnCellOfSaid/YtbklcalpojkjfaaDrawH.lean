/- Contracts: the draws of squares. -/
import Derived.Test.YtbklcalpojkjfaaPickS
import Derived.Deep.RegionHeld3
namespace Go.Proofs.Ytbklcalpojkjfaa
open Go.RowKit

/-- Numbers that fit, for a region that draws its order (there no wrap goes by itself). -/
theorem wrap_nums : IntKind.i64.wrap 0 = 0 ∧ IntKind.i64.wrap 1 = 1 ∧ IntKind.i64.wrap 2 = 2 ∧ IntKind.i64.wrap 4 = 4 ∧ IntKind.i64.wrap 6 = 6 ∧ IntKind.i64.wrap 8 = 8 ∧ IntKind.i64.wrap 10 = 10 ∧ IntKind.i64.wrap 16 = 16 ∧
    IntKind.i64.wrap 32 = 32 ∧ IntKind.i64.wrap 64 = 64 ∧ IntKind.i64.wrap 128 = 128 ∧ IntKind.i64.wrap 256 = 256 ∧ IntKind.i64.wrap 1024 = 1024 := by decide +kernel

/-- Two numbers that are not great. -/
def DrawnTwo (w : World) (e : Ending) (w' : World) : Prop :=
  ∃ x y : Int, e = .returned (.tuple #[.int .i64 x, .int .i64 y]) ∧ -1000000 ≤ x ∧ x ≤ 1000000 ∧ -1000000 ≤ y ∧ y ≤ 1000000 ∧ Below w.heap.size w w'
def DrawnThree (w : World) (e : Ending) (w' : World) : Prop :=
  ∃ x y z : Int, e = .returned (.tuple #[.int .i64 x, .int .i64 y, .int .i64 z]) ∧ (-1000000 ≤ x ∧ x ≤ 1000000) ∧ (-1000000 ≤ y ∧ y ≤ 1000000) ∧ (-1000000 ≤ z ∧ z ≤ 1000000) ∧ Below w.heap.size w w'
def DrawnFour (w : World) (e : Ending) (w' : World) : Prop :=
  ∃ x y z u : Int, e = .returned (.tuple #[.int .i64 x, .int .i64 y, .int .i64 z, .int .i64 u]) ∧ (-1000000 ≤ x ∧ x ≤ 1000000) ∧ (-1000000 ≤ y ∧ y ≤ 1000000) ∧ (-1000000 ≤ z ∧ z ≤ 1000000) ∧ (-1000000 ≤ u ∧ u ≤ 1000000) ∧ Below w.heap.size w w'

theorem tmod_bd {x m : Int} (hx : 0 ≤ x) (hm : 1 ≤ m) : 0 ≤ x.tmod m ∧ x.tmod m < m := by
  rw [Int.tmod_eq_emod_of_nonneg hx]; exact ⟨Int.emod_nonneg _ (by omega), Int.emod_lt_of_pos _ (by omega)⟩
theorem below_end {w w1 w2 : World} {rb : Nat} (hb1 : Below w.heap.size w w1) (hrb : w.heap.size ≤ rb) (hg : w1.grownBy w2 (some rb)) : Below w.heap.size w w2 := hb1.trans (below_of_grown hg hb1.size hrb)

set_option maxHeartbeats 2000000 in
theorem drawCellOf_c (a : Option Addr) (len cap : Nat) (zs : List Int) (w : World) (h : IsRow .u8 w a len cap zs) :
    Calls Try.prog 38 #[.slice a len cap] w (DrawnTwo w) := by
  go_enter Try.func38, Try.ntmps38
  go_upto_region 3 with (first
    | (go_at_call 51; refine (open_s _ _ _ _ _ h).mono ?_; rintro e w1 ⟨rb, rfl, hrb, hrd, hb1⟩; have hgx := World.grownBy.refl w1 (some rb))
    | (go_at_call 52; refine (pick_s _ _ _ _ (by assumption) (by omega) (by omega)).mono ?_; rintro e w2 ⟨u, rfl, hu0, hu1, hr2, hg2⟩; have hgx := hgx.trans hg2; clear hg2))
  clear hrd h
  go_cut [6] (fun s wx => ∃ x : Int, s = .int .i64 x ∧ 0 ≤ x ∧ x < 1024 ∧ RdS wx rb 20 ∧ w1.grownBy wx (some rb))
  case first =>
    obtain ⟨n0, n1, n2, n4, n6, n8, n10, n16, n32, n64, n128, n256, n1024⟩ := wrap_nums
    obtain rfl | rfl | rfl | rfl | rfl | rfl : u = 0 ∨ u = 1 ∨ u = 2 ∨ u = 3 ∨ u = 4 ∨ u = 5 := by omega
    all_goals
      go_region_held3 (fun _ => True) (exact trivial)
        (first
          | (go_at_call_of 52 (Value.int IntKind.i64 256); refine (pick_s _ _ _ _ (by assumption) (by omega) (by omega)).mono ?_; rintro e w3 ⟨v, rfl, hv0, hv1, hr3, hg3⟩; have hgx := (grown_drew hgx).trans hg3; clear hg3 hr2; have e1 := IntWalk.i64_in (v * 4) (by omega))
          | (go_at_call_of 52 (Value.int IntKind.i64 4); refine (pick_s _ _ _ _ (by assumption) (by omega) (by omega)).mono ?_; rintro e w4 ⟨v4, rfl, hx0, hx1, hr4, hg4⟩; have hgx := hgx.trans hg4; clear hg4; have e2 := IntWalk.i64_in (v * 4 + v4) (by omega)))
      go_wp2_with fail
      go_meet
      first | exact ⟨_, rfl, by omega, by omega, hr4.mono (by omega), hgx⟩ | exact ⟨_, rfl, (tmod_bd (by omega) (by decide)).1, Int.lt_of_lt_of_le (tmod_bd (by omega) (by decide)).2 (by decide), hr4.mono (by omega), hgx⟩
  case rest =>
    obtain ⟨x, rfl, hx0, hx1, hrx, hgx⟩ := hcut
    clear hr2
    go_wp2_with (go_at_call 52; refine (pick_s _ _ _ _ (by assumption) (by omega) (by omega)).mono ?_; rintro e w2 ⟨v, rfl, hv0, hv1, hr2, hg2⟩; have hgx := hgx.trans hg2; clear hg2)
    go_ret2
    exact ⟨_, _, rfl, by omega, by omega, by omega, by omega, below_end hb1 hrb hgx⟩

theorem drawUnwovenOf_c (a : Option Addr) (len cap : Nat) (zs : List Int) (w : World) (h : IsRow .u8 w a len cap zs) :
    Calls Try.prog 27 #[.slice a len cap] w (DrawnTwo w) := by
  go_enter Try.func27, Try.ntmps27
  go_wp2_with (go_at_call 38; refine (drawCellOf_c _ _ _ _ _ h).mono ?_; rintro e w1 ⟨x, y, rfl, h1, h2, h3, h4, hb⟩)
  go_ret2
  exact ⟨_, _, rfl, h1, h2, h3, h4, hb⟩

theorem drawEastOf_c (a : Option Addr) (len cap : Nat) (zs : List Int) (w : World) (h : IsRow .u8 w a len cap zs) :
    Calls Try.prog 34 #[.slice a len cap] w (DrawnTwo w) := by
  go_enter Try.func34, Try.ntmps34
  go_wp2_with (go_at_call 38; refine (drawCellOf_c _ _ _ _ _ h).mono ?_; rintro e w1 ⟨x, y, rfl, h1, h2, h3, h4, hb⟩)
  go_ret2
  exact ⟨_, _, rfl, h1, h2, h3, h4, hb⟩

theorem drawFarthestApart_c (a : Option Addr) (len cap : Nat) (zs : List Int) (w : World) (h : IsRow .u8 w a len cap zs) :
    Calls Try.prog 37 #[.slice a len cap] w (DrawnTwo w) := by
  go_enter Try.func37, Try.ntmps37
  go_wp2_with (first
    | (go_at_call 51; refine (open_s _ _ _ _ _ h).mono ?_; rintro e w1 ⟨rb, rfl, hrb, hrd, hb1⟩; have hgx := World.grownBy.refl w1 (some rb))
    | (go_at_call 52; refine (pick_s _ _ _ _ (by assumption) (by omega) (by omega)).mono ?_; rintro e w2 ⟨u, rfl, hu0, hu1, hr2, hg2⟩; have hgx := hgx.trans hg2; clear hg2))
  go_ret2
  exact ⟨_, _, rfl, by omega, by omega, by omega, by omega, below_end hb1 hrb hgx⟩

set_option maxHeartbeats 4000000 in
theorem drawNumberOf_c (a : Option Addr) (len cap : Nat) (zs : List Int) (w : World) (h : IsRow .u8 w a len cap zs) :
    Calls Try.prog 36 #[.slice a len cap] w (DrawnThree w) := by
  go_enter Try.func36, Try.ntmps36
  go_upto_region 3 with (first
    | (go_at_call 51; refine (open_s _ _ _ _ _ h).mono ?_; rintro e w1 ⟨rb, rfl, hrb, hrd, hb1⟩; have hgx := World.grownBy.refl w1 (some rb))
    | (go_at_call 52; refine (pick_s _ _ _ _ (by assumption) (by omega) (by omega)).mono ?_; rintro e w2 ⟨u, rfl, hu0, hu1, hr2, hg2⟩; have hgx := hgx.trans hg2; clear hg2))
  clear hrd h
  obtain ⟨n0, n1, n2, n4, n6, n8, n10, n16, n32, n64, n128, n256, n1024⟩ := wrap_nums
  have tok1 : True := trivial
  have tok2 : True := trivial
  have tok3 : True := trivial
  obtain rfl | rfl | rfl | rfl | rfl | rfl : u = 0 ∨ u = 1 ∨ u = 2 ∨ u = 3 ∨ u = 4 ∨ u = 5 := by omega
  all_goals
    go_region_held3 (fun _ => True) (exact trivial)
      (first
        | (go_at_call 52; have _t := tok1; refine (pick_s _ _ _ _ (by assumption) (by omega) (by omega)).mono ?_; rintro e w3 ⟨v1, rfl, hv0, hv1, hr3, hg3⟩; have hgx := (grown_drew hgx).trans hg3; clear hg3 hr2 tok1)
        | (go_at_call 52; have _t := tok2; refine (pick_s _ _ _ _ (by assumption) (by omega) (by omega)).mono ?_; rintro e w4 ⟨v2, rfl, hx0, hx1, hr4, hg4⟩; have hgx := hgx.trans hg4; clear hg4 tok2; have q1 := IntWalk.i64_quo v2 19 (by omega); have q2 := IntWalk.i64_in (v2 / 19 * 32) (by omega); have q3 := IntWalk.i64_in (v1 + v2 / 19 * 32) (by omega))
        | (go_at_call 52; have _t := tok3; refine (pick_s _ _ _ _ (by assumption) (by omega) (by omega)).mono ?_; rintro e w5 ⟨v3, rfl, hy0, hy1, hr5, hg5⟩; have hgx := hgx.trans hg5; clear hg5 tok3)
        | (go_at_call 52; refine (pick_s _ _ _ _ (by assumption) (by omega) (by omega)).mono ?_; rintro e w6 ⟨v4, rfl, hz0, hz1, hr6, hg6⟩; have hgx := hgx.trans hg6; clear hg6; have q4 := IntWalk.i64_quo v4 19 (by omega); have q5 := IntWalk.i64_in (v4 / 19 * 32) (by omega); have q6 := IntWalk.i64_in (v3 - v4 / 19 * 32) (by omega)))
    go_wp2
    go_ret3
    exact ⟨_, _, _, rfl, by omega, by omega, by omega, below_end hb1 hrb hgx⟩

theorem drawWovenOf_c (a : Option Addr) (len cap : Nat) (zs : List Int) (w : World) (h : IsRow .u8 w a len cap zs) :
    Calls Try.prog 29 #[.slice a len cap] w (DrawnThree w) := by
  go_enter Try.func29, Try.ntmps29
  go_wp2_with (go_at_call 36; refine (drawNumberOf_c _ _ _ _ _ h).mono ?_; rintro e w1 ⟨x, y, z, rfl, h1, h2, h3, hb⟩)
  go_ret3
  exact ⟨_, _, _, rfl, h1, h2, h3, hb⟩
end Go.Proofs.Ytbklcalpojkjfaa
