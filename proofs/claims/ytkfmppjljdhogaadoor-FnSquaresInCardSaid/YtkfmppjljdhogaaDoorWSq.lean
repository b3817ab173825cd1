/- The walk of FnSquaresIn. -/
import Derived.Test.YtkfmppjljdhogaaDoorDrawY
import Derived.Test.YtkfmppjljdhogaaDoorSpS
import Derived.Test.YtkfmppjljdhogaaDoorAlive
namespace Go.Proofs.YtkfmppjljdhogaaDoor
open Go.RowKit TW

set_option maxHeartbeats 2000000 in
theorem walk_FnSquaresIn (a : Option Addr) (len cap : Nat) (zs : List Int) (w : World) (h : IsRow .u8 w a len cap zs) (hd : Dirs w) :
    Calls Tryd.prog 4 #[.slice a len cap] w fun e w' => e = .returned (.bool true) ∧ Below w.heap.size w w' := by
  have HD := hid hd
  clear hd
  by_cases hbig : 1048576 < len
  · go_enter Tryd.func4, Tryd.ntmps4
    go_wp2
    go_ret
    exact ⟨rfl, Below.refl _ _⟩
  · go_enter Tryd.func4, Tryd.ntmps4
    go_wp2_with fail
    refine (drawSquaresIn_c _ _ _ _ _ h).mono ?_
    rintro e w1 ⟨s, rfl, hs, hb⟩
    have HB := hid hb
    have HSZ : Hid (s.size ≤ maxLen) := hid (by unfold maxLen; omega)
    clear hb h
    have H1 := hid (fun w hd => implSquaresIn_c s HSZ.out w hd)
    have H2 := hid (fun w => specSquaresIn_c s HSZ.out w)
    have HS := hid (fun w hd => implSimpleOk_c s HSZ.out w hd)
    have HA := hid (fun w hd => implAreaOf_c s HSZ.out w hd)
    cases hsm : smL (lets s) with
    | false =>
      have e1 := sqR_no hsm
      rw [e1] at H1 H2
      rw [hsm] at HS
      clear hsm e1
      go_wp2_with fail
      refine (H1.out _ (HD.out.below HB.out)).mono ?_
      rintro e w2 ⟨rfl, hb⟩
      have HB := hid (HB.out.trans (hb.mono HB.out.size))
      clear hb
      go_wp2_with fail
      refine (H2.out _).mono ?_
      rintro e w3 ⟨rfl, hb⟩
      have HB := hid (HB.out.trans (hb.mono HB.out.size))
      clear hb
      go_wp2_with (first
        | (go_at_call 13; refine (HS.out _ (HD.out.below HB.out)).mono ?_; rintro e w' ⟨rfl, hb⟩; have HB := hid (HB.out.trans (hb.mono HB.out.size)); clear hb)
        | (go_at_call 12; refine (alive_c _).mono ?_; rintro e w' ⟨rfl, rfl⟩))
      go_ret
      exact ⟨rfl, HB.out⟩
    | true =>
      have e1 := sqR_yes hsm
      have e2 := sq_area hsm
      have hc := smL_cl hsm
      have e3 := arR_yes hc
      rw [e1, e2] at H1 H2
      rw [hc, e3] at HA
      have hb2 := arS_le (lets s) (lets s).length (wkL_len (clL_wk hc))
      have e4 : arS (lets s) (lets s).length = arL (lets s) := rfl
      have hl := wkL_len (clL_wk hc)
      rw [e4] at hb2
      have hn : -2000 ≤ arL (lets s) ∧ arL (lets s) ≤ 2000 := by omega
      obtain ⟨hn1, hn2⟩ := hn
      clear hsm e1 e2 e3 e4 hc hb2 hl
      generalize arL (lets s) = n at *
      by_cases c : n < -n
      · have em : max n (-n) = -n := by omega
        rw [em] at H1 H2
        clear em
        go_wp2_with fail
        refine (H1.out _ (HD.out.below HB.out)).mono ?_
        rintro e w2 ⟨rfl, hb⟩
        have HB := hid (HB.out.trans (hb.mono HB.out.size))
        clear hb
        go_wp2_with fail
        refine (H2.out _).mono ?_
        rintro e w3 ⟨rfl, hb⟩
        have HB := hid (HB.out.trans (hb.mono HB.out.size))
        clear hb
        go_wp2_with fail
        refine (HA.out _ (HD.out.below HB.out)).mono ?_
        rintro e w4 ⟨rfl, hb⟩
        have HB := hid (HB.out.trans (hb.mono HB.out.size))
        clear hb
        go_wp2_with fail
        go_ret
        exact ⟨rfl, HB.out⟩
      · have em : max n (-n) = n := by omega
        rw [em] at H1 H2
        clear em
        go_wp2_with fail
        refine (H1.out _ (HD.out.below HB.out)).mono ?_
        rintro e w2 ⟨rfl, hb⟩
        have HB := hid (HB.out.trans (hb.mono HB.out.size))
        clear hb
        go_wp2_with fail
        refine (H2.out _).mono ?_
        rintro e w3 ⟨rfl, hb⟩
        have HB := hid (HB.out.trans (hb.mono HB.out.size))
        clear hb
        go_wp2_with fail
        refine (HA.out _ (HD.out.below HB.out)).mono ?_
        rintro e w4 ⟨rfl, hb⟩
        have HB := hid (HB.out.trans (hb.mono HB.out.size))
        clear hb
        go_wp2_with fail
        go_ret
        exact ⟨rfl, HB.out⟩
end Go.Proofs.YtkfmppjljdhogaaDoor
