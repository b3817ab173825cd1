/- Contracts: more draws of walks. -/
import Derived.Test.YtmojhdnehmjnmaaDoorDrawY
namespace Go.Proofs.YtmojhdnehmjnmaaDoor
open Go.RowKit TW

set_option maxHeartbeats 2000000 in
theorem drawBackWalk_c (a : Option Addr) (len cap : Nat) (zs : List Int) (w : World) (h : IsRow .u8 w a len cap zs) :
    Calls Tryd.prog 9 #[.slice a len cap] w (DrawnT w) := by
  go_enter Tryd.func9, Tryd.ntmps9
  go_wp2_with fail
  refine (open_s _ _ _ _ _ h).mono ?_
  rintro e w1 ⟨rb, rfl, hrb, hrd, hb1⟩
  clear h
  go_wp2_with fail
  refine (l20Walk_c rb 9 0 _ hrd (by omega) (by omega) (by omega) (by omega)).mono ?_
  intro e w2 hd
  have HD := hid (drawnT hd hb1 hrb)
  obtain ⟨s, rfl, _⟩ := hd
  go_wp2_with fail
  go_ret
  exact HD.out

set_option maxHeartbeats 2000000 in
theorem drawTurningOf_c (a : Option Addr) (len cap : Nat) (zs : List Int) (w : World) (h : IsRow .u8 w a len cap zs) :
    Calls Tryd.prog 27 #[.slice a len cap] w (DrawnT w) := by
  go_enter Tryd.func27, Tryd.ntmps27
  go_wp2_with fail
  refine (open_s _ _ _ _ _ h).mono ?_
  rintro e w1 ⟨rb, rfl, hrb, hrd, hb1⟩
  clear h
  go_wp2_with fail
  refine (pick_s _ _ _ _ hrd (by omega) (by omega)).mono ?_
  rintro e w2 ⟨v, rfl, hv0, hv1, hr2, hg2⟩
  have HR := hid hr2
  have HB := hid (hb1.trans (below_of_grown hg2 hb1.size hrb))
  clear hr2 hg2 hrd hb1
  by_cases hv : v = 0
  · subst hv
    go_wp2_with fail
    refine (l20Grown_c rb (0 + 1) _ HR.out (by omega) (by omega)).mono ?_
    rintro e w3 ⟨s, rfl, hs1, hs2, hr3, hg3⟩
    have HB := hid (HB.out.trans (below_of_grown hg3 HB.out.size hrb))
    clear hr3 hg3
    go_wp2_with fail
    go_ret
    exact ⟨s, rfl, by omega, HB.out⟩
  · have f0 : (v == 0) = false := by rw [beq_eq_false_iff_ne]; exact hv
    clear hv
    go_wp2_with fail
    refine (l20Walk_c rb 9 (0 + 1) _ HR.out (by omega) (by omega) (by omega) (by omega)).mono ?_
    rintro e w3 ⟨s, rfl, hs1, hs2, hr3, hg3⟩
    have HB := hid (HB.out.trans (below_of_grown hg3 HB.out.size hrb))
    clear hr3 hg3
    go_wp2_with fail
    go_ret
    exact ⟨s, rfl, by omega, HB.out⟩

set_option maxHeartbeats 2000000 in
theorem drawAreaOf_c (a : Option Addr) (len cap : Nat) (zs : List Int) (w : World) (h : IsRow .u8 w a len cap zs) :
    Calls Tryd.prog 35 #[.slice a len cap] w (DrawnT w) := by
  go_enter Tryd.func35, Tryd.ntmps35
  go_wp2_with fail
  refine (open_s _ _ _ _ _ h).mono ?_
  rintro e w1 ⟨rb, rfl, hrb, hrd, hb1⟩
  clear h
  go_wp2_with fail
  refine (pick_s _ _ _ _ hrd (by omega) (by omega)).mono ?_
  rintro e w2 ⟨v, rfl, hv0, hv1, hr2, hg2⟩
  have HR := hid hr2
  have HB := hid (hb1.trans (below_of_grown hg2 hb1.size hrb))
  clear hr2 hg2 hrd hb1
  by_cases hv : v = 0
  · subst hv
    go_wp2_with fail
    refine (l20Walk_c rb 9 (0 + 1) _ HR.out (by omega) (by omega) (by omega) (by omega)).mono ?_
    rintro e w3 ⟨s, rfl, hs1, hs2, hr3, hg3⟩
    have HB := hid (HB.out.trans (below_of_grown hg3 HB.out.size hrb))
    clear hr3 hg3
    go_wp2_with fail
    go_ret
    exact ⟨s, rfl, by omega, HB.out⟩
  · have f0 : (v == 0) = false := by rw [beq_eq_false_iff_ne]; exact hv
    clear hv
    go_wp2_with fail
    refine (l20Simple_c rb (0 + 1) _ HR.out (by omega) (by omega)).mono ?_
    rintro e w3 ⟨s, rfl, hs1, hs2, hr3, hg3⟩
    have HB := hid (HB.out.trans (below_of_grown hg3 HB.out.size hrb))
    clear hr3 hg3
    go_wp2_with fail
    go_ret
    exact ⟨s, rfl, by omega, HB.out⟩

/-- What a draw of a text and a square leaves. -/
def DrawnQ (w : World) (e : Ending) (w' : World) : Prop := ∃ (s : ByteArray) (x y : Int), e = .returned (.tuple #[.string s, .int .i64 x, .int .i64 y]) ∧ s.size ≤ 41 ∧ (-10 ≤ x ∧ x ≤ 10 ∧ -10 ≤ y ∧ y ≤ 10) ∧ Below w.heap.size w w'
/-- What a draw of two texts leaves. -/
def DrawnB (w : World) (e : Ending) (w' : World) : Prop := ∃ s t : ByteArray, e = .returned (.tuple #[.string s, .string t]) ∧ s.size ≤ 41 ∧ t.size ≤ 41 ∧ Below w.heap.size w w'

set_option maxHeartbeats 2000000 in
theorem drawBothOf_c (a : Option Addr) (len cap : Nat) (zs : List Int) (w : World) (h : IsRow .u8 w a len cap zs) :
    Calls Tryd.prog 17 #[.slice a len cap] w (DrawnB w) := by
  go_enter Tryd.func17, Tryd.ntmps17
  go_wp2_with fail
  refine (open_s _ _ _ _ _ h).mono ?_
  rintro e w1 ⟨rb, rfl, hrb, hrd, hb1⟩
  clear h
  go_wp2_with fail
  refine (l20Walk_c rb 14 0 _ hrd (by omega) (by omega) (by omega) (by omega)).mono ?_
  rintro e w2 ⟨s, rfl, hs1, hs2, hr2, hg2⟩
  have HR := hid hr2
  have HB := hid (hb1.trans (below_of_grown hg2 hb1.size hrb))
  clear hr2 hg2 hrd hb1
  go_wp2_with fail
  refine (l20Walk_c rb 14 (0 + 40) _ HR.out (by omega) (by omega) (by omega) (by omega)).mono ?_
  rintro e w3 ⟨t, rfl, ht1, ht2, hr3, hg3⟩
  have HB := hid (HB.out.trans (below_of_grown hg3 HB.out.size hrb))
  clear hr3 hg3
  go_wp2_with fail
  go_ret2
  exact ⟨s, t, rfl, hs2, ht2, HB.out⟩

set_option maxHeartbeats 2000000 in
theorem drawWithinOk_c (a : Option Addr) (len cap : Nat) (zs : List Int) (w : World) (h : IsRow .u8 w a len cap zs) :
    Calls Tryd.prog 31 #[.slice a len cap] w (DrawnQ w) := by
  go_enter Tryd.func31, Tryd.ntmps31
  go_wp2_with fail
  refine (open_s _ _ _ _ _ h).mono ?_
  rintro e w1 ⟨rb, rfl, hrb, hrd, hb1⟩
  clear h
  go_wp2_with fail
  refine (l20Simple_c rb 0 _ hrd (by omega) (by omega)).mono ?_
  rintro e w2 ⟨s, rfl, hs1, hs2, hr2, hg2⟩
  have HR := hid hr2
  have HB := hid (hb1.trans (below_of_grown hg2 hb1.size hrb))
  clear hr2 hg2 hrd hb1
  go_wp2_with fail
  refine (pick_s _ _ _ _ HR.out (by omega) (by omega)).mono ?_
  rintro e w3 ⟨u, rfl, hu0, hu1, hr3, hg3⟩
  have HR := hid hr3
  have HB := hid (HB.out.trans (below_of_grown hg3 HB.out.size hrb))
  clear hr3 hg3
  go_wp2_with fail
  refine (pick_s _ _ _ _ HR.out (by omega) (by omega)).mono ?_
  rintro e w4 ⟨v, rfl, hv0, hv1, hr4, hg4⟩
  have HB := hid (HB.out.trans (below_of_grown hg4 HB.out.size hrb))
  clear hr4 hg4
  go_wp2_with fail
  go_ret3
  exact ⟨s, u - 4, v - 4, rfl, hs2, by omega, HB.out⟩
end Go.Proofs.YtmojhdnehmjnmaaDoor
