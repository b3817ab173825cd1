/- Contract: the draw of two numbers and a level. -/
import Derived.Test.YtbklcalpojkjfaaDrawH
namespace Go.Proofs.Ytbklcalpojkjfaa
open Go.RowKit

/-- Two numbers of a square, and a level. -/
def DrawnSQ (w : World) (e : Ending) (w' : World) : Prop :=
  ∃ k a b l : Int, e = .returned (.tuple #[.int .i64 k, .int .i64 a, .int .i64 b, .int .i64 l]) ∧ (1 ≤ k ∧ k ≤ 5) ∧ (0 ≤ a ∧ a < 4 ^ k.toNat) ∧ (0 ≤ b ∧ b < 4 ^ k.toNat) ∧ (0 ≤ l ∧ l ≤ 11) ∧ Below w.heap.size w w'
theorem results_tmp4 {fn : Func} {s t u v : Tmp} (h : fn.results = #[.tmp s, .tmp t, .tmp u, .tmp v]) (tmps : Array Value) (P : Program) (w : World) :
    (results fn tmps).run P w = .ok (.tuple #[tmps.getD s undef, tmps.getD t undef, tmps.getD u undef, tmps.getD v undef]) w := by
  simp [results, h]
/-- A number of a square. -/
def InSq (u x : Int) : Prop := 0 ≤ x ∧ x < 4 ^ (1 + u).toNat
theorem inSq_mod {u x m : Int} (hx : 0 ≤ x) (hm : (4 : Int) ^ (1 + u).toNat = m) (h1 : 1 ≤ m) : InSq u (x.tmod m) := by
  unfold InSq; rw [hm]; exact tmod_bd hx h1
theorem inSq_mod' {u x m : Int} (hx : 0 ≤ x) (hm : (4 : Int) ^ (1 + u).toNat = m) (h1 : 1 ≤ m) : InSq u (x % m) := by
  rw [← Int.tmod_eq_emod_of_nonneg hx]; exact inSq_mod hx hm h1

set_option maxHeartbeats 4000000 in
theorem drawSameQuarters_c (a : Option Addr) (len cap : Nat) (zs : List Int) (w : World) (h : IsRow .u8 w a len cap zs) :
    Calls Try.prog 35 #[.slice a len cap] w (DrawnSQ w) := by
  go_enter Try.func35, Try.ntmps35
  go_upto_region 3 with (first
    | (go_at_call 51; refine (open_s _ _ _ _ _ h).mono ?_; rintro e w1 ⟨rb, rfl, hrb, hrd, hb1⟩; have hgx := World.grownBy.refl w1 (some rb))
    | (go_at_call 52; refine (pick_s _ _ _ _ (by assumption) (by omega) (by omega)).mono ?_; rintro e w2 ⟨u, rfl, hu0, hu1, hr2, hg2⟩; have hgx := hgx.trans hg2; clear hg2))
  clear hrd h
  go_cut [8] (fun s wx => ∃ x : Int, s = .int .i64 x ∧ InSq u x ∧ RdS wx rb 20 ∧ w1.grownBy wx (some rb))
  case first =>
    obtain ⟨n0, n1, n2, n4, n6, n8, n10, n16, n32, n64, n128, n256, n1024⟩ := wrap_nums
    obtain rfl | rfl | rfl | rfl | rfl : u = 0 ∨ u = 1 ∨ u = 2 ∨ u = 3 ∨ u = 4 := by omega
    all_goals
      go_region_held3 (fun _ => True) (exact trivial)
        (first
          | (go_at_call_of 52 (Value.int IntKind.i64 256); refine (pick_s _ _ _ _ (by assumption) (by omega) (by omega)).mono ?_; rintro e w3 ⟨v, rfl, hv0, hv1, hr3, hg3⟩; have hgx := (grown_drew hgx).trans hg3; clear hg3 hr2; have e1 := IntWalk.i64_in (v * 4) (by omega))
          | (go_at_call_of 52 (Value.int IntKind.i64 4); refine (pick_s _ _ _ _ (by assumption) (by omega) (by omega)).mono ?_; rintro e w4 ⟨v4, rfl, hx0, hx1, hr4, hg4⟩; have hgx := hgx.trans hg4; clear hg4 hr3; have e2 := IntWalk.i64_in (v * 4 + v4) (by omega)))
      go_wp2_with fail
      go_meet
      first
        | exact ⟨_, rfl, inSq_mod (by omega) (by decide) (by decide), hr4.mono (by omega), hgx⟩
        | exact ⟨_, rfl, inSq_mod' (by omega) (by decide) (by decide), hr4.mono (by omega), hgx⟩
  case rest =>
    obtain ⟨x, rfl, HX, hrx, hgx⟩ := hcut
    have HX := hid HX
    clear hr2
    go_wp2_with fail
    go_cut [9] (fun s wx => ∃ y : Int, s = .int .i64 y ∧ InSq u y ∧ RdS wx rb 30 ∧ w1.grownBy wx (some rb))
    case first =>
      obtain ⟨n0, n1, n2, n4, n6, n8, n10, n16, n32, n64, n128, n256, n1024⟩ := wrap_nums
      have hx := HX.out
      unfold InSq at hx
      obtain rfl | rfl | rfl | rfl | rfl : u = 0 ∨ u = 1 ∨ u = 2 ∨ u = 3 ∨ u = 4 := by omega
      all_goals
        have hx2 : 0 ≤ x ∧ x < 1024 := ⟨hx.1, Int.lt_of_lt_of_le hx.2 (by decide)⟩
        clear hx
        obtain ⟨hx0, hx1⟩ := hx2
        go_region_held3 (fun _ => True) (exact trivial)
          (first
            | (go_at_call 52; refine (pick_s _ _ _ _ (by assumption) (by omega) (by omega)).mono ?_; rintro e w3 ⟨v, rfl, hv0, hv1, hr3, hg3⟩; have hgx := (grown_drew hgx).trans hg3; clear hg3 hrx; have e1 := IntWalk.i64_in (x + v) (by omega)))
        go_wp2_with fail
        go_meet
        first
          | exact ⟨_, rfl, inSq_mod (by omega) (by decide) (by decide), hr3.mono (by omega), hgx⟩
          | exact ⟨_, rfl, inSq_mod' (by omega) (by decide) (by decide), hr3.mono (by omega), hgx⟩
    case rest =>
      obtain ⟨y, rfl, HY, hry, hgy⟩ := hcut
      have HY := hid HY
      clear hrx hgx
      have hgx := hgy
      clear hgy
      go_wp2_with fail
      refine (pick_s _ _ _ _ hry (by omega) (by omega)).mono ?_
      rintro e w3 ⟨v, rfl, hv0, hv1, hr3, hg3⟩
      have hgx := hgx.trans hg3
      clear hg3 hry
      go_wp2_with fail
      refine (pick_s _ _ _ _ hr3 (by omega) (by omega)).mono ?_
      rintro e w4 ⟨v2, rfl, hv2, hv3, hr4, hg4⟩
      have hgx := hgx.trans hg4
      clear hg4 hr3
      go_wp2_with fail
      refine bodyPost_ret (results_tmp4 rfl _ _ _) rfl ?_
      exact ⟨_, _, _, _, rfl, by omega, HX.out, HY.out, by omega, below_end hb1 hrb hgx⟩
end Go.Proofs.Ytbklcalpojkjfaa
