/- The walks of FnMostWinding and FnAllWindings. -/
import Derived.Test.YtkfmppjljdhogaaDoorDrawY
import Derived.Test.YtkfmppjljdhogaaDoorWkI
import Derived.Test.YtkfmppjljdhogaaDoorAlive
namespace Go.Proofs.YtkfmppjljdhogaaDoor
open Go.RowKit TW

theorem most_pos {l : List UInt8} (h : clL l = true) : moR l = mostOf (wdL l) ∧ 0 ≤ moR l ∧ 4 * moR l ≤ l.length := by
  have e : moR l = mostOf (wdL l) := by unfold moR; rw [if_pos h]
  exact ⟨e, by rw [e]; exact mostOf_nonneg _, by rw [e]; exact most_four h⟩

set_option maxHeartbeats 2000000 in
theorem walk_FnMostWinding (a : Option Addr) (len cap : Nat) (zs : List Int) (w : World) (h : IsRow .u8 w a len cap zs) (hd : Dirs w) :
    Calls Tryd.prog 3 #[.slice a len cap] w fun e w' => e = .returned (.bool true) ∧ Below w.heap.size w w' := by
  have HD := hid hd
  clear hd
  by_cases hbig : 1048576 < len
  · go_enter Tryd.func3, Tryd.ntmps3
    go_wp2
    go_ret
    exact ⟨rfl, Below.refl _ _⟩
  · go_enter Tryd.func3, Tryd.ntmps3
    go_wp2_with fail
    refine (drawMostWinding_c _ _ _ _ _ h).mono ?_
    rintro e w1 ⟨s, rfl, hs, hb⟩
    have HB := hid hb
    have HSZ : Hid (s.size ≤ maxLen) := hid (by unfold maxLen; omega)
    clear hb h
    go_wp2_with fail
    refine (implMostWinding_c s HSZ.out _ (HD.out.below HB.out)).mono ?_
    rintro e w2 ⟨rfl, hb⟩
    have HB := hid (HB.out.trans (hb.mono HB.out.size))
    clear hb
    go_wp2_with fail
    refine (specMostWinding_c s HSZ.out _).mono ?_
    rintro e w3 ⟨rfl, hb⟩
    have HB := hid (HB.out.trans (hb.mono HB.out.size))
    clear hb
    cases hcl : clL (lets s) with
    | false =>
      have e1 : moR (lets s) = -1 := moR_no hcl
      rw [e1]
      clear hcl e1
      go_wp2_with (go_at_call 12; refine (alive_c _).mono ?_; rintro e w' ⟨rfl, rfl⟩)
      go_ret
      exact ⟨rfl, HB.out⟩
    | true =>
      obtain ⟨e1, h0, h4⟩ := most_pos hcl
      have H1 : Hid (smL (lets s) = true → 2 < s.size → moR (lets s) = 1) := hid (fun hsm h2 => by rw [e1]; exact simple_most hsm (by rw [lets_len]; exact h2))
      rw [lets_len] at h4
      clear e1 hcl
      generalize moR (lets s) = n at *
      have HS := hid (fun w hd => implSimpleOk_c s HSZ.out w hd)
      by_cases h2 : s.size ≤ 2
      · have i2 : (s.size : Int) ≤ 2 := by omega
        go_wp2_with (go_at_call 12; refine (alive_c _).mono ?_; rintro e w' ⟨rfl, rfl⟩)
        go_ret
        exact ⟨rfl, HB.out⟩
      · have i2 : ¬ (s.size : Int) ≤ 2 := by omega
        cases hsm : smL (lets s) with
        | false =>
          rw [hsm] at HS
          clear hsm
          go_wp2_with (first
            | (go_at_call 13; refine (HS.out _ (HD.out.below HB.out)).mono ?_; rintro e w' ⟨rfl, hb⟩; have HB := hid (HB.out.trans (hb.mono HB.out.size)); clear hb)
            | (go_at_call 12; refine (alive_c _).mono ?_; rintro e w' ⟨rfl, rfl⟩))
          go_ret
          exact ⟨rfl, HB.out⟩
        | true =>
          obtain rfl : n = 1 := H1.out hsm (by omega)
          rw [hsm] at HS
          clear hsm H1
          go_wp2_with (first
            | (go_at_call 13; refine (HS.out _ (HD.out.below HB.out)).mono ?_; rintro e w' ⟨rfl, hb⟩; have HB := hid (HB.out.trans (hb.mono HB.out.size)); clear hb)
            | (go_at_call 12; refine (alive_c _).mono ?_; rintro e w' ⟨rfl, rfl⟩))
          go_ret
          exact ⟨rfl, HB.out⟩

theorem aw_ar {l : List UInt8} (h : clL l = true) : awR l = arR l := by
  rw [arR_yes h, ← aw_area h]
  unfold awR awL
  exact box2_congr (fun a b _ _ _ _ => wdR_yes h a b)

set_option maxHeartbeats 2000000 in
theorem walk_FnAllWindings (a : Option Addr) (len cap : Nat) (zs : List Int) (w : World) (h : IsRow .u8 w a len cap zs) (hd : Dirs w) :
    Calls Tryd.prog 8 #[.slice a len cap] w fun e w' => e = .returned (.bool true) ∧ Below w.heap.size w w' := by
  have HD := hid hd
  clear hd
  by_cases hbig : 1048576 < len
  · go_enter Tryd.func8, Tryd.ntmps8
    go_wp2
    go_ret
    exact ⟨rfl, Below.refl _ _⟩
  · go_enter Tryd.func8, Tryd.ntmps8
    go_wp2_with fail
    refine (drawAllWindings_c _ _ _ _ _ h).mono ?_
    rintro e w1 ⟨s, rfl, hs, hb⟩
    have HB := hid hb
    have HSZ : Hid (s.size ≤ maxLen) := hid (by unfold maxLen; omega)
    clear hb h
    have HA := hid (fun w hd => implAreaOf_c s HSZ.out w hd)
    have HW := hid (fun w hd => implAllWindings_c s HSZ.out w hd)
    have HW2 := hid (fun w => specAllWindings_c s HSZ.out w)
    cases hcl : clL (lets s) with
    | false =>
      have e1 : awR (lets s) = 0 := box2_nought _ _ (fun a b => wdR_no hcl a b)
      rw [hcl, e1] at HW HW2
      clear hcl e1
      go_wp2_with fail
      refine (HW.out _ (HD.out.below HB.out)).mono ?_
      rintro e w2 ⟨rfl, hb⟩
      have HB := hid (HB.out.trans (hb.mono HB.out.size))
      clear hb
      go_wp2_with fail
      refine (HW2.out _).mono ?_
      rintro e w3 ⟨rfl, hb⟩
      have HB := hid (HB.out.trans (hb.mono HB.out.size))
      clear hb
      go_wp2_with (go_at_call 12; refine (alive_c _).mono ?_; rintro e w' ⟨rfl, rfl⟩)
      go_ret
      exact ⟨rfl, HB.out⟩
    | true =>
      have e1 := aw_ar hcl
      rw [hcl, ← e1] at HA
      rw [hcl] at HW HW2
      clear hcl e1
      generalize awR (lets s) = n at *
      go_wp2_with fail
      refine (HW.out _ (HD.out.below HB.out)).mono ?_
      rintro e w2 ⟨rfl, hb⟩
      have HB := hid (HB.out.trans (hb.mono HB.out.size))
      clear hb
      go_wp2_with fail
      refine (HW2.out _).mono ?_
      rintro e w3 ⟨rfl, hb⟩
      have HB := hid (HB.out.trans (hb.mono HB.out.size))
      clear hb
      go_wp2_with fail
      refine (HA.out _ (HD.out.below HB.out)).mono ?_
      rintro e w4 ⟨rfl, hb⟩
      have HB := hid (HB.out.trans (hb.mono HB.out.size))
      clear hb
      go_wp2_with (go_at_call 12; refine (alive_c _).mono ?_; rintro e w' ⟨rfl, rfl⟩)
      go_ret
      exact ⟨rfl, HB.out⟩
end Go.Proofs.YtkfmppjljdhogaaDoor
