/- The walks of FnTurningOf and FnAreaOf. -/
import Derived.Test.YtmojhdnehmjnmaaDoorDrawZ
import Derived.Test.YtmojhdnehmjnmaaDoorTrn
import Derived.Test.YtmojhdnehmjnmaaDoorMov
import Derived.Test.YtmojhdnehmjnmaaDoorAlive
namespace Go.Proofs.YtmojhdnehmjnmaaDoor
open Go.RowKit TW

theorem mv_facts {s : ByteArray} (h : clL (lets s) = true) {k : Nat} (hk : k < s.size) : clL (lets (bStr (movedL (lets s) k))) = true ∧ tnR (lets (bStr (movedL (lets s) k))) = tnR (lets s) ∧ arR (lets (bStr (movedL (lets s) k))) = arR (lets s) ∧ (bStr (movedL (lets s) k)).size = s.size := by
  have hk' : k < (lets s).length := by rw [lets_len]; exact hk
  have hc := moved_cl h hk'
  refine ⟨by rw [lets_bStr]; exact hc, ?_, ?_, by rw [bStr_size, moved_len, lets_len]⟩
  · rw [lets_bStr, tnR_yes hc, tnR_yes h, moved_tn hk']
  · rw [lets_bStr, arR_yes hc, arR_yes h, moved_ar h hk']
theorem bk_facts {s : ByteArray} (h : clL (lets s) = true) : clL (lets (bkS s)) = true ∧ tnR (lets (bkS s)) = - tnR (lets s) ∧ arR (lets (bkS s)) = - arR (lets s) ∧ (bkS s).size = s.size := by
  have hc := back_cl h
  have e := bkS_yes (clL_wk h)
  refine ⟨by rw [e, lets_bStr]; exact hc, ?_, ?_, by rw [e, bStr_size, back_len, lets_len]⟩
  · rw [e, lets_bStr, tnR_yes hc, tnR_yes h, back_tn h]
  · rw [e, lets_bStr, arR_yes hc, arR_yes h, back_ar h]
theorem tnR_le (l : List UInt8) : -40 ≤ tnR l ∧ tnR l ≤ 40 := by
  unfold tnR
  split
  · rename_i h
    have h1 := wkL_len (clL_wk h)
    have h2 := tnS_le l l.length
    have e : tnS l l.length = tnL l := rfl
    rw [e] at h2
    omega
  · omega
theorem arR_le2 (l : List UInt8) : -2000 ≤ arR l ∧ arR l ≤ 2000 := by
  unfold arR
  split
  · rename_i h
    have h1 := wkL_len (clL_wk h)
    have h2 := arS_le l l.length h1
    have e : arS l l.length = arL l := rfl
    rw [e] at h2
    omega
  · omega

set_option maxRecDepth 100000 in
set_option maxHeartbeats 8000000 in
theorem walk_FnTurningOf (a : Option Addr) (len cap : Nat) (zs : List Int) (w : World) (h : IsRow .u8 w a len cap zs) (hd : Dirs w) :
    Calls Tryd.prog 6 #[.slice a len cap] w fun e w' => e = .returned (.bool true) ∧ Below w.heap.size w w' := by
  have HD := hid hd
  clear hd
  by_cases hbig : 1048576 < len
  · go_enter Tryd.func6, Tryd.ntmps6
    go_wp2
    go_ret
    exact ⟨rfl, Below.refl _ _⟩
  · go_enter Tryd.func6, Tryd.ntmps6
    go_wp2_with fail
    refine (drawTurningOf_c _ _ _ _ _ h).mono ?_
    rintro e w1 ⟨s, rfl, hs, hb⟩
    have HB := hid hb
    have HSZ : Hid (s.size ≤ maxLen) := hid (by unfold maxLen; omega)
    clear hb h
    have H1 := hid (fun w hd => implTurningOf_c s HSZ.out w hd)
    have H2 := hid (fun w => specTurningOf_c s HSZ.out w)
    cases hcl : clL (lets s) with
    | false =>
      have e1 := tnR_no hcl
      rw [hcl, e1] at H1 H2
      clear hcl e1
      go_wp2_with fail
      refine (H1.out _ (HD.out.below HB.out)).mono ?_
      rintro e w9 ⟨rfl, hb⟩
      have HB := hid (HB.out.trans (hb.mono HB.out.size))
      clear hb
      go_wp2_with fail
      refine (H2.out _).mono ?_
      rintro e w9 ⟨rfl, hb⟩
      have HB := hid (HB.out.trans (hb.mono HB.out.size))
      clear hb
      go_wp2_with (go_at_call 13; refine (alive_c _).mono ?_; rintro e w' ⟨rfl, rfl⟩)
      go_ret
      exact ⟨rfl, HB.out⟩
    | true =>
      have h40 := (cl_facts hcl).1
      have hpos := clL_pos hcl
      rw [lets_len] at hpos
      have hk : s.size - 1 < s.size := by omega
      obtain ⟨m1, m2, _, m4⟩ := mv_facts hcl hk
      obtain ⟨b1, b2, _, b4⟩ := bk_facts hcl
      have HM := hid (fun w hd => implMovedOn_c s (s.size - 1) hk hcl w hd)
      have HBk := hid (fun w => implBackWalk_c s HSZ.out w)
      have ek : ((s.size - 1 : Nat) : Int) = (s.size : Int) - 1 := by omega
      rw [ek] at HM
      generalize bStr (movedL (lets s) (s.size - 1)) = M at *
      generalize bkS s = K at *
      have HTM := hid (fun w hd => implTurningOf_c M (by unfold maxLen; omega) w hd)
      have HTK := hid (fun w hd => implTurningOf_c K (by unfold maxLen; omega) w hd)
      rw [m1, m2] at HTM
      rw [b1, b2] at HTK
      have H4 : Hid (smL (lets s) = true → 2 < s.size → tnR (lets s) = 4 ∨ tnR (lets s) = -4) := hid (fun hsm h2 => by rw [tnR_yes hcl]; exact simple_turn hsm (by rw [lets_len]; exact h2))
      obtain ⟨t1, t2⟩ := tnR_le (lets s)
      have HS := hid (fun w hd => implSimpleOk_c s HSZ.out w hd)
      rw [hcl] at H1 H2
      clear m1 m2 m4 b1 b2 b4 ek hk hcl
      generalize tnR (lets s) = T at *
      by_cases h2 : s.size ≤ 2
      · have i2 : (s.size : Int) ≤ 2 := by omega
        go_wp2_with fail
        refine (H1.out _ (HD.out.below HB.out)).mono ?_
        rintro e w9 ⟨rfl, hb⟩
        have HB := hid (HB.out.trans (hb.mono HB.out.size))
        clear hb
        go_wp2_with fail
        refine (H2.out _).mono ?_
        rintro e w9 ⟨rfl, hb⟩
        have HB := hid (HB.out.trans (hb.mono HB.out.size))
        clear hb
        go_wp2_with fail
        refine (HM.out _ (HD.out.below HB.out)).mono ?_
        rintro e w9 ⟨rfl, hb⟩
        have HB := hid (HB.out.trans (hb.mono HB.out.size))
        clear hb
        go_wp2_with fail
        refine (HTM.out _ (HD.out.below HB.out)).mono ?_
        rintro e w9 ⟨rfl, hb⟩
        have HB := hid (HB.out.trans (hb.mono HB.out.size))
        clear hb
        go_wp2_with fail
        refine (HBk.out _).mono ?_
        rintro e w9 ⟨rfl, hb⟩
        have HB := hid (HB.out.trans (hb.mono HB.out.size))
        clear hb
        go_wp2_with fail
        refine (HTK.out _ (HD.out.below HB.out)).mono ?_
        rintro e w9 ⟨rfl, hb⟩
        have HB := hid (HB.out.trans (hb.mono HB.out.size))
        clear hb
        go_wp2_with fail
        go_ret
        exact ⟨rfl, HB.out⟩
      · have i2 : ¬ (s.size : Int) ≤ 2 := by omega
        cases hsm : smL (lets s) with
        | false =>
          rw [hsm] at HS
          clear hsm H4
          go_wp2_with fail
          refine (H1.out _ (HD.out.below HB.out)).mono ?_
          rintro e w9 ⟨rfl, hb⟩
          have HB := hid (HB.out.trans (hb.mono HB.out.size))
          clear hb
          go_wp2_with fail
          refine (H2.out _).mono ?_
          rintro e w9 ⟨rfl, hb⟩
          have HB := hid (HB.out.trans (hb.mono HB.out.size))
          clear hb
          go_wp2_with fail
          refine (HM.out _ (HD.out.below HB.out)).mono ?_
          rintro e w9 ⟨rfl, hb⟩
          have HB := hid (HB.out.trans (hb.mono HB.out.size))
          clear hb
          go_wp2_with fail
          refine (HTM.out _ (HD.out.below HB.out)).mono ?_
          rintro e w9 ⟨rfl, hb⟩
          have HB := hid (HB.out.trans (hb.mono HB.out.size))
          clear hb
          go_wp2_with fail
          refine (HBk.out _).mono ?_
          rintro e w9 ⟨rfl, hb⟩
          have HB := hid (HB.out.trans (hb.mono HB.out.size))
          clear hb
          go_wp2_with fail
          refine (HTK.out _ (HD.out.below HB.out)).mono ?_
          rintro e w9 ⟨rfl, hb⟩
          have HB := hid (HB.out.trans (hb.mono HB.out.size))
          clear hb
          go_wp2_with fail
          refine (HS.out _ (HD.out.below HB.out)).mono ?_
          rintro e w9 ⟨rfl, hb⟩
          have HB := hid (HB.out.trans (hb.mono HB.out.size))
          clear hb
          go_wp2_with fail
          go_ret
          exact ⟨rfl, HB.out⟩
        | true =>
          rw [hsm] at HS
          have hT := H4.out hsm (by omega)
          clear hsm H4
          obtain rfl | rfl := hT
          all_goals
            go_wp2_with fail
            refine (H1.out _ (HD.out.below HB.out)).mono ?_
            rintro e w9 ⟨rfl, hb⟩
            have HB := hid (HB.out.trans (hb.mono HB.out.size))
            clear hb
            go_wp2_with fail
            refine (H2.out _).mono ?_
            rintro e w9 ⟨rfl, hb⟩
            have HB := hid (HB.out.trans (hb.mono HB.out.size))
            clear hb
            go_wp2_with fail
            refine (HM.out _ (HD.out.below HB.out)).mono ?_
            rintro e w9 ⟨rfl, hb⟩
            have HB := hid (HB.out.trans (hb.mono HB.out.size))
            clear hb
            go_wp2_with fail
            refine (HTM.out _ (HD.out.below HB.out)).mono ?_
            rintro e w9 ⟨rfl, hb⟩
            have HB := hid (HB.out.trans (hb.mono HB.out.size))
            clear hb
            go_wp2_with fail
            refine (HBk.out _).mono ?_
            rintro e w9 ⟨rfl, hb⟩
            have HB := hid (HB.out.trans (hb.mono HB.out.size))
            clear hb
            go_wp2_with fail
            refine (HTK.out _ (HD.out.below HB.out)).mono ?_
            rintro e w9 ⟨rfl, hb⟩
            have HB := hid (HB.out.trans (hb.mono HB.out.size))
            clear hb
            go_wp2_with fail
            refine (HS.out _ (HD.out.below HB.out)).mono ?_
            rintro e w9 ⟨rfl, hb⟩
            have HB := hid (HB.out.trans (hb.mono HB.out.size))
            clear hb
            go_wp2_with fail
            go_ret
            exact ⟨rfl, HB.out⟩

set_option maxRecDepth 100000 in
set_option maxHeartbeats 8000000 in
theorem walk_FnAreaOf (a : Option Addr) (len cap : Nat) (zs : List Int) (w : World) (h : IsRow .u8 w a len cap zs) (hd : Dirs w) :
    Calls Tryd.prog 8 #[.slice a len cap] w fun e w' => e = .returned (.bool true) ∧ Below w.heap.size w w' := by
  have HD := hid hd
  clear hd
  by_cases hbig : 1048576 < len
  · go_enter Tryd.func8, Tryd.ntmps8
    go_wp2
    go_ret
    exact ⟨rfl, Below.refl _ _⟩
  · go_enter Tryd.func8, Tryd.ntmps8
    go_wp2_with fail
    refine (drawAreaOf_c _ _ _ _ _ h).mono ?_
    rintro e w1 ⟨s, rfl, hs, hb⟩
    have HB := hid hb
    have HSZ : Hid (s.size ≤ maxLen) := hid (by unfold maxLen; omega)
    clear hb h
    have H1 := hid (fun w hd => implAreaOf_c s HSZ.out w hd)
    have H2 := hid (fun w => specAreaOf_c s HSZ.out w)
    cases hcl : clL (lets s) with
    | false =>
      have e1 := arR_no hcl
      rw [hcl, e1] at H1 H2
      clear hcl e1
      go_wp2_with fail
      refine (H1.out _ (HD.out.below HB.out)).mono ?_
      rintro e w9 ⟨rfl, hb⟩
      have HB := hid (HB.out.trans (hb.mono HB.out.size))
      clear hb
      go_wp2_with fail
      refine (H2.out _).mono ?_
      rintro e w9 ⟨rfl, hb⟩
      have HB := hid (HB.out.trans (hb.mono HB.out.size))
      clear hb
      go_wp2_with (go_at_call 13; refine (alive_c _).mono ?_; rintro e w' ⟨rfl, rfl⟩)
      go_ret
      exact ⟨rfl, HB.out⟩
    | true =>
      have h40 := (cl_facts hcl).1
      have hpos := clL_pos hcl
      rw [lets_len] at hpos
      have hk : s.size / 2 < s.size := by omega
      obtain ⟨m1, _, m3, m4⟩ := mv_facts hcl hk
      obtain ⟨b1, _, b3, b4⟩ := bk_facts hcl
      have HM := hid (fun w hd => implMovedOn_c s (s.size / 2) hk hcl w hd)
      have HBk := hid (fun w => implBackWalk_c s HSZ.out w)
      have ek : ((s.size / 2 : Nat) : Int) = (s.size : Int) / 2 := by omega
      rw [ek] at HM
      generalize bStr (movedL (lets s) (s.size / 2)) = M at *
      generalize bkS s = K at *
      have HAM := hid (fun w hd => implAreaOf_c M (by unfold maxLen; omega) w hd)
      have HAK := hid (fun w hd => implAreaOf_c K (by unfold maxLen; omega) w hd)
      have HT := hid (fun w hd => implTurningOf_c s HSZ.out w hd)
      rw [m1, m3] at HAM
      rw [b1, b3] at HAK
      have H4 : Hid (smL (lets s) = true → 2 < s.size → arR (lets s) ≠ 0 ∧ (0 < arR (lets s) ↔ 0 < tnR (lets s))) := hid (fun hsm h2 => by rw [tnR_yes hcl, arR_yes hcl]; exact simple_area hsm (by rw [lets_len]; exact h2))
      obtain ⟨t1, t2⟩ := tnR_le (lets s)
      obtain ⟨a1, a2⟩ := arR_le2 (lets s)
      have HS := hid (fun w hd => implSimpleOk_c s HSZ.out w hd)
      rw [hcl] at H1 H2 HT
      clear m1 m3 m4 b1 b3 b4 ek hk hcl
      generalize tnR (lets s) = T at *
      generalize arR (lets s) = A at *
      by_cases h2 : s.size ≤ 2
      · have i2 : (s.size : Int) ≤ 2 := by omega
        go_wp2_with fail
        refine (H1.out _ (HD.out.below HB.out)).mono ?_
        rintro e w9 ⟨rfl, hb⟩
        have HB := hid (HB.out.trans (hb.mono HB.out.size))
        clear hb
        go_wp2_with fail
        refine (H2.out _).mono ?_
        rintro e w9 ⟨rfl, hb⟩
        have HB := hid (HB.out.trans (hb.mono HB.out.size))
        clear hb
        go_wp2_with fail
        refine (HM.out _ (HD.out.below HB.out)).mono ?_
        rintro e w9 ⟨rfl, hb⟩
        have HB := hid (HB.out.trans (hb.mono HB.out.size))
        clear hb
        go_wp2_with fail
        refine (HAM.out _ (HD.out.below HB.out)).mono ?_
        rintro e w9 ⟨rfl, hb⟩
        have HB := hid (HB.out.trans (hb.mono HB.out.size))
        clear hb
        go_wp2_with fail
        refine (HBk.out _).mono ?_
        rintro e w9 ⟨rfl, hb⟩
        have HB := hid (HB.out.trans (hb.mono HB.out.size))
        clear hb
        go_wp2_with fail
        refine (HAK.out _ (HD.out.below HB.out)).mono ?_
        rintro e w9 ⟨rfl, hb⟩
        have HB := hid (HB.out.trans (hb.mono HB.out.size))
        clear hb
        go_wp2_with fail
        refine (HT.out _ (HD.out.below HB.out)).mono ?_
        rintro e w9 ⟨rfl, hb⟩
        have HB := hid (HB.out.trans (hb.mono HB.out.size))
        clear hb
        go_wp2_with fail
        go_ret
        exact ⟨rfl, HB.out⟩
      · have i2 : ¬ (s.size : Int) ≤ 2 := by omega
        cases hsm : smL (lets s) with
        | false =>
          rw [hsm] at HS
          clear hsm H4
          go_wp2_with fail
          refine (H1.out _ (HD.out.below HB.out)).mono ?_
          rintro e w9 ⟨rfl, hb⟩
          have HB := hid (HB.out.trans (hb.mono HB.out.size))
          clear hb
          go_wp2_with fail
          refine (H2.out _).mono ?_
          rintro e w9 ⟨rfl, hb⟩
          have HB := hid (HB.out.trans (hb.mono HB.out.size))
          clear hb
          go_wp2_with fail
          refine (HM.out _ (HD.out.below HB.out)).mono ?_
          rintro e w9 ⟨rfl, hb⟩
          have HB := hid (HB.out.trans (hb.mono HB.out.size))
          clear hb
          go_wp2_with fail
          refine (HAM.out _ (HD.out.below HB.out)).mono ?_
          rintro e w9 ⟨rfl, hb⟩
          have HB := hid (HB.out.trans (hb.mono HB.out.size))
          clear hb
          go_wp2_with fail
          refine (HBk.out _).mono ?_
          rintro e w9 ⟨rfl, hb⟩
          have HB := hid (HB.out.trans (hb.mono HB.out.size))
          clear hb
          go_wp2_with fail
          refine (HAK.out _ (HD.out.below HB.out)).mono ?_
          rintro e w9 ⟨rfl, hb⟩
          have HB := hid (HB.out.trans (hb.mono HB.out.size))
          clear hb
          go_wp2_with fail
          refine (HT.out _ (HD.out.below HB.out)).mono ?_
          rintro e w9 ⟨rfl, hb⟩
          have HB := hid (HB.out.trans (hb.mono HB.out.size))
          clear hb
          go_wp2_with fail
          refine (HS.out _ (HD.out.below HB.out)).mono ?_
          rintro e w9 ⟨rfl, hb⟩
          have HB := hid (HB.out.trans (hb.mono HB.out.size))
          clear hb
          go_wp2_with fail
          go_ret
          exact ⟨rfl, HB.out⟩
        | true =>
          rw [hsm] at HS
          obtain ⟨hA, hAT⟩ := H4.out hsm (by omega)
          have z1 : (A == 0) = false := by rw [beq_eq_false_iff_ne]; exact hA
          have z2 : (A != 0) = true := by unfold bne; rw [z1]; rfl
          have hc : (0 < A ∧ 0 < T) ∨ (¬ 0 < A ∧ ¬ 0 < T) := by omega
          clear hsm H4 hA hAT
          rcases hc with ⟨c1, c2⟩ | ⟨c1, c2⟩
          all_goals
            go_wp2_with fail
            refine (H1.out _ (HD.out.below HB.out)).mono ?_
            rintro e w9 ⟨rfl, hb⟩
            have HB := hid (HB.out.trans (hb.mono HB.out.size))
            clear hb
            go_wp2_with fail
            refine (H2.out _).mono ?_
            rintro e w9 ⟨rfl, hb⟩
            have HB := hid (HB.out.trans (hb.mono HB.out.size))
            clear hb
            go_wp2_with fail
            refine (HM.out _ (HD.out.below HB.out)).mono ?_
            rintro e w9 ⟨rfl, hb⟩
            have HB := hid (HB.out.trans (hb.mono HB.out.size))
            clear hb
            go_wp2_with fail
            refine (HAM.out _ (HD.out.below HB.out)).mono ?_
            rintro e w9 ⟨rfl, hb⟩
            have HB := hid (HB.out.trans (hb.mono HB.out.size))
            clear hb
            go_wp2_with fail
            refine (HBk.out _).mono ?_
            rintro e w9 ⟨rfl, hb⟩
            have HB := hid (HB.out.trans (hb.mono HB.out.size))
            clear hb
            go_wp2_with fail
            refine (HAK.out _ (HD.out.below HB.out)).mono ?_
            rintro e w9 ⟨rfl, hb⟩
            have HB := hid (HB.out.trans (hb.mono HB.out.size))
            clear hb
            go_wp2_with fail
            refine (HT.out _ (HD.out.below HB.out)).mono ?_
            rintro e w9 ⟨rfl, hb⟩
            have HB := hid (HB.out.trans (hb.mono HB.out.size))
            clear hb
            go_wp2_with fail
            refine (HS.out _ (HD.out.below HB.out)).mono ?_
            rintro e w9 ⟨rfl, hb⟩
            have HB := hid (HB.out.trans (hb.mono HB.out.size))
            clear hb
            go_wp2_with fail
            go_ret
            exact ⟨rfl, HB.out⟩
end Go.Proofs.YtmojhdnehmjnmaaDoor
