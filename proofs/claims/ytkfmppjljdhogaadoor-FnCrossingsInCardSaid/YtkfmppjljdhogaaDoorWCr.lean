/- The walk of FnCrossingsIn. -/
import Derived.Test.YtkfmppjljdhogaaDoorDrawY
import Derived.Test.YtkfmppjljdhogaaDoorWkY
import Derived.Test.YtkfmppjljdhogaaDoorAlive
namespace Go.Proofs.YtkfmppjljdhogaaDoor
open Go.RowKit TW

set_option maxRecDepth 100000 in
set_option maxHeartbeats 4000000 in
theorem walk_FnCrossingsIn (a : Option Addr) (len cap : Nat) (zs : List Int) (w : World) (h : IsRow .u8 w a len cap zs) (hd : Dirs w) :
    Calls Tryd.prog 5 #[.slice a len cap] w fun e w' => e = .returned (.bool true) ∧ Below w.heap.size w w' := by
  have HD := hid hd
  clear hd
  by_cases hbig : 1048576 < len
  · go_enter Tryd.func5, Tryd.ntmps5
    go_wp2
    go_ret
    exact ⟨rfl, Below.refl _ _⟩
  · go_enter Tryd.func5, Tryd.ntmps5
    go_wp2_with fail
    refine (drawCrossingsIn_c _ _ _ _ _ h).mono ?_
    rintro e w1 ⟨s, rfl, hs, hb⟩
    have HB := hid hb
    have HSZ : Hid (s.size ≤ maxLen) := hid (by unfold maxLen; omega)
    clear hb h
    have H1 := hid (fun w hd => implCrossingsIn_c s HSZ.out w hd)
    have H2 := hid (fun w => specCrossingsIn_c s HSZ.out w)
    have HQ := hid (fun w hd => implSquaresIn_c s HSZ.out w hd)
    cases hsm : smL (lets s) with
    | false =>
      have e1 := crR_no hsm
      rw [e1] at H1 H2
      clear hsm e1 HQ
      go_wp2_with fail
      refine (H1.out _ (HD.out.below HB.out)).mono ?_
      rintro e w2 ⟨rfl, hb⟩
      have HB := hid (HB.out.trans (hb.mono HB.out.size))
      clear hb
      go_wp2_with fail
      refine (H2.out _).mono ?_
      rintro e w3 ⟨rfl, hb⟩
      have HB := hid (HB.out.trans (hb.mono HB.out.size))
      clear hb
      go_wp2_with (go_at_call 12; refine (alive_c _).mono ?_; rintro e w' ⟨rfl, rfl⟩)
      go_ret
      exact ⟨rfl, HB.out⟩
    | true =>
      have e1 := crR_yes hsm
      have e2 := sqR_yes hsm
      rw [e1] at H1 H2
      rw [e2] at HQ
      have hl := wkL_len (clL_wk (smL_cl hsm))
      rw [lets_len] at hl
      have hn := crPart_le (lets s) (i := 41) (j := 0) (by omega) (by omega)
      rw [crPart_zero, cr_all] at hn
      obtain ⟨n1, n2⟩ := hn
      by_cases h2 : s.size ≤ 2
      · have e3 := two_cross (smL_cl hsm) (by rw [lets_len]; exact h2)
        rw [e3] at H1 H2
        have i2 : (s.size : Int) ≤ 2 := by omega
        clear e1 e2 e3 hsm HQ n1 n2
        go_wp2_with fail
        refine (H1.out _ (HD.out.below HB.out)).mono ?_
        rintro e w2 ⟨rfl, hb⟩
        have HB := hid (HB.out.trans (hb.mono HB.out.size))
        clear hb
        go_wp2_with fail
        refine (H2.out _).mono ?_
        rintro e w3 ⟨rfl, hb⟩
        have HB := hid (HB.out.trans (hb.mono HB.out.size))
        clear hb
        go_wp2_with fail
        go_ret
        exact ⟨rfl, HB.out⟩
      · have e3 := sq_cross hsm (by rw [lets_len]; omega)
        rw [lets_len] at e3
        have i2 : ¬ (s.size : Int) ≤ 2 := by omega
        have i3 : (2 : Int) < (s.size : Int) := by omega
        clear e1 e2 hsm
        generalize crL (lets s) = n at *
        generalize sqL (lets s) = m at *
        have n3 : ¬ n < 0 := by omega
        have m1 : 0 ≤ m := by omega
        have m2 : m ≤ 100100 := by omega
        have t1 : (2 * m == 2 * n + (s.size : Int) - 2) = true := by simpa using e3
        clear e3
        go_wp2_with fail
        refine (H1.out _ (HD.out.below HB.out)).mono ?_
        rintro e w2 ⟨rfl, hb⟩
        have HB := hid (HB.out.trans (hb.mono HB.out.size))
        clear hb
        go_wp2_with fail
        refine (H2.out _).mono ?_
        rintro e w3 ⟨rfl, hb⟩
        have HB := hid (HB.out.trans (hb.mono HB.out.size))
        clear hb
        go_wp2_with fail
        refine (HQ.out _ (HD.out.below HB.out)).mono ?_
        rintro e w4 ⟨rfl, hb⟩
        have HB := hid (HB.out.trans (hb.mono HB.out.size))
        clear hb
        go_wp2_with fail
        go_ret
        exact ⟨rfl, HB.out⟩
end Go.Proofs.YtkfmppjljdhogaaDoor
