/- The walk of FnWithinOk. -/
import Derived.Test.YtmojhdnehmjnmaaDoorDrawZ
import Derived.Test.YtmojhdnehmjnmaaDoorSpE
import Derived.Test.YtmojhdnehmjnmaaDoorTrn
import Derived.Test.YtmojhdnehmjnmaaDoorAlive
namespace Go.Proofs.YtmojhdnehmjnmaaDoor
open Go.RowKit TW

theorem sides_at {s : ByteArray} (h : smL (lets s) = true) (hn : 2 < s.size) {b : UInt8} (hb : s[0]'(by omega) = b) (x y p q : Int)
    (hk : (b = 101 ∧ x = 0 ∧ y = 0 ∧ p = 0 ∧ q = -1) ∨ (b = 110 ∧ x = -1 ∧ y = 0 ∧ p = 0 ∧ q = 0) ∨ (b = 119 ∧ x = -1 ∧ y = -1 ∧ p = -1 ∧ q = 0) ∨ (b = 115 ∧ x = 0 ∧ y = -1 ∧ p = -1 ∧ q = -1)) :
    wnR (lets s) x y = decide (0 < tnR (lets s)) ∧ wnR (lets s) p q = decide (tnR (lets s) < 0) := by
  rw [wnR_yes h, wnR_yes h, tnR_yes (smL_cl h)]
  refine sides_of h (by rw [lets_len]; exact hn) x y p q ?_
  rw [at0_lets (by omega : 0 < s.size), hb]
  exact hk

set_option maxRecDepth 100000 in
set_option maxHeartbeats 8000000 in
theorem walk_FnWithinOk (a : Option Addr) (len cap : Nat) (zs : List Int) (w : World) (h : IsRow .u8 w a len cap zs) (hd : Dirs w) :
    Calls Tryd.prog 7 #[.slice a len cap] w fun e w' => e = .returned (.bool true) ∧ Below w.heap.size w w' := by
  have HD := hid hd
  clear hd
  by_cases hbig : 1048576 < len
  · go_enter Tryd.func7, Tryd.ntmps7
    go_wp2
    go_ret
    exact ⟨rfl, Below.refl _ _⟩
  · go_enter Tryd.func7, Tryd.ntmps7
    go_wp2_with fail
    refine (drawWithinOk_c _ _ _ _ _ h).mono ?_
    rintro e w1 ⟨s, x, y, rfl, hs, hxy, hb⟩
    have HB := hid hb
    have HSZ : Hid (s.size ≤ maxLen) := hid (by unfold maxLen; omega)
    clear hb h hxy
    have HI := hid (fun x y w hd => implWithinOk_c s HSZ.out x y w hd)
    have HS := hid (fun w => specWithinOk_c s HSZ.out x y w)
    have HQ := hid (fun w => specSimpleOk_c s HSZ.out w)
    have HT := hid (fun w hd => implTurningOf_c s HSZ.out w hd)
    have HI0 := hid (fun w hd => HI.out x y w hd)
    cases hsm : smL (lets s) with
    | false =>
      rw [wnR_no hsm] at HI0 HS
      rw [hsm] at HQ
      clear hsm
      go_wp2_with fail
      refine (HI0.out _ (HD.out.below HB.out)).mono ?_
      rintro e w2 ⟨rfl, hb⟩
      have HB := hid (HB.out.trans (hb.mono HB.out.size))
      clear hb
      go_wp2_with fail
      refine (HS.out _).mono ?_
      rintro e w3 ⟨rfl, hb⟩
      have HB := hid (HB.out.trans (hb.mono HB.out.size))
      clear hb
      go_wp2_with fail
      refine (HQ.out _).mono ?_
      rintro e w4 ⟨rfl, hb⟩
      have HB := hid (HB.out.trans (hb.mono HB.out.size))
      clear hb
      go_wp2_with fail
      refine (HQ.out _).mono ?_
      rintro e w5 ⟨rfl, hb⟩
      have HB := hid (HB.out.trans (hb.mono HB.out.size))
      clear hb
      go_wp2_with (go_at_call 13; refine (alive_c _).mono ?_; rintro e w' ⟨rfl, rfl⟩)
      go_ret
      exact ⟨rfl, HB.out⟩
    | true =>
      rw [hsm] at HQ
      generalize hz : wnR (lets s) x y = z at *
      have HZ := hid hz
      clear hz
      by_cases h2 : s.size ≤ 2
      · have i2 : (s.size : Int) ≤ 2 := by omega
        clear hsm
        cases z
        all_goals
          go_wp2_with fail
          refine (HI0.out _ (HD.out.below HB.out)).mono ?_
          rintro e w2 ⟨rfl, hb⟩
          have HB := hid (HB.out.trans (hb.mono HB.out.size))
          clear hb
          go_wp2_with fail
          refine (HS.out _).mono ?_
          rintro e w3 ⟨rfl, hb⟩
          have HB := hid (HB.out.trans (hb.mono HB.out.size))
          clear hb
          go_wp2_with fail
          refine (HQ.out _).mono ?_
          rintro e w4 ⟨rfl, hb⟩
          have HB := hid (HB.out.trans (hb.mono HB.out.size))
          clear hb
          go_wp2_with fail
          refine (HQ.out _).mono ?_
          rintro e w5 ⟨rfl, hb⟩
          have HB := hid (HB.out.trans (hb.mono HB.out.size))
          clear hb
          go_wp2_with (go_at_call 13; refine (alive_c _).mono ?_; rintro e w' ⟨rfl, rfl⟩)
          go_ret
          exact ⟨rfl, HB.out⟩
      · have i2 : ¬ (s.size : Int) ≤ 2 := by omega
        have hn : 2 < s.size := by omega
        have h0 : 0 < s.size := by omega
        have hc := smL_cl hsm
        have hT : tnR (lets s) = 4 ∨ tnR (lets s) = -4 := by rw [tnR_yes hc]; exact simple_turn hsm (by rw [lets_len]; exact hn)
        obtain ⟨f1, f2⟩ := far_in hc
        have F1 := hid (fun w hd => HI.out 40 0 w hd)
        have F2 := hid (fun w hd => HI.out 0 (-40) w hd)
        rw [wnR_yes hsm, f1] at F1
        rw [wnR_yes hsm, f2] at F2
        rw [hc] at HT
        have hst : isStep (s[0]'h0) = true := by
          have h1 := wk_all (clL_wk hc)
          rw [List.all_eq_true] at h1
          exact h1 _ (by have := take_snoc s 0 h0; exact List.mem_of_mem_take (i := 0 + 1) (by rw [this]; simp))
        have HSM := hid hsm
        clear h2 f1 f2 hc hsm
        rcases isStep_cases hst with hb0 | hb0 | hb0 | hb0
        · obtain ⟨e1, e2⟩ := sides_at HSM.out hn hb0 0 0 0 (-1) (.inl ⟨rfl, rfl, rfl, rfl, rfl⟩)
          have L1 := hid (fun w hd => HI.out 0 0 w hd)
          have L2 := hid (fun w hd => HI.out 0 (-1) w hd)
          rw [e1] at L1
          rw [e2] at L2
          have t101 : ((s[0].toNat : Int) == 101) = true := by rw [hb0]; rfl
          have t110 : ((s[0].toNat : Int) == 110) = false := by rw [hb0]; rfl
          have t119 : ((s[0].toNat : Int) == 119) = false := by rw [hb0]; rfl
          have t115 : ((s[0].toNat : Int) == 115) = false := by rw [hb0]; rfl
          clear e1 e2 hb0 HSM
          rcases hT with hT | hT
          all_goals
            rw [hT] at HT L1 L2
            clear hT
            have L1 := hid L1.out
            have L2 := hid L2.out
            cases z
            all_goals
              go_wp2_with fail
              refine (HI0.out _ (HD.out.below HB.out)).mono ?_
              rintro e w2 ⟨rfl, hb⟩
              have HB := hid (HB.out.trans (hb.mono HB.out.size))
              clear hb
              go_wp2_with fail
              refine (HS.out _).mono ?_
              rintro e w3 ⟨rfl, hb⟩
              have HB := hid (HB.out.trans (hb.mono HB.out.size))
              clear hb
              go_wp2_with fail
              refine (HQ.out _).mono ?_
              rintro e w4 ⟨rfl, hb⟩
              have HB := hid (HB.out.trans (hb.mono HB.out.size))
              clear hb
              go_wp2_with fail
              refine (HT.out _ (HD.out.below HB.out)).mono ?_
              rintro e w5 ⟨rfl, hb⟩
              have HB := hid (HB.out.trans (hb.mono HB.out.size))
              clear hb
              go_wp2_with fail
              refine (L1.out _ (HD.out.below HB.out)).mono ?_
              rintro e w6 ⟨rfl, hb⟩
              have HB := hid (HB.out.trans (hb.mono HB.out.size))
              clear hb
              go_wp2_with fail
              refine (L2.out _ (HD.out.below HB.out)).mono ?_
              rintro e w7 ⟨rfl, hb⟩
              have HB := hid (HB.out.trans (hb.mono HB.out.size))
              clear hb
              go_wp2_with fail
              refine (F1.out _ (HD.out.below HB.out)).mono ?_
              rintro e w8 ⟨rfl, hb⟩
              have HB := hid (HB.out.trans (hb.mono HB.out.size))
              clear hb
              go_wp2_with fail
              refine (F2.out _ (HD.out.below HB.out)).mono ?_
              rintro e w9 ⟨rfl, hb⟩
              have HB := hid (HB.out.trans (hb.mono HB.out.size))
              clear hb
              go_wp2_with fail
              go_ret
              exact ⟨rfl, HB.out⟩
        · obtain ⟨e1, e2⟩ := sides_at HSM.out hn hb0 (-1) 0 0 0 (.inr (.inl ⟨rfl, rfl, rfl, rfl, rfl⟩))
          have L1 := hid (fun w hd => HI.out (-1) 0 w hd)
          have L2 := hid (fun w hd => HI.out 0 0 w hd)
          rw [e1] at L1
          rw [e2] at L2
          have t101 : ((s[0].toNat : Int) == 101) = false := by rw [hb0]; rfl
          have t110 : ((s[0].toNat : Int) == 110) = true := by rw [hb0]; rfl
          have t119 : ((s[0].toNat : Int) == 119) = false := by rw [hb0]; rfl
          have t115 : ((s[0].toNat : Int) == 115) = false := by rw [hb0]; rfl
          clear e1 e2 hb0 HSM
          rcases hT with hT | hT
          all_goals
            rw [hT] at HT L1 L2
            clear hT
            have L1 := hid L1.out
            have L2 := hid L2.out
            cases z
            all_goals
              go_wp2_with fail
              refine (HI0.out _ (HD.out.below HB.out)).mono ?_
              rintro e w2 ⟨rfl, hb⟩
              have HB := hid (HB.out.trans (hb.mono HB.out.size))
              clear hb
              go_wp2_with fail
              refine (HS.out _).mono ?_
              rintro e w3 ⟨rfl, hb⟩
              have HB := hid (HB.out.trans (hb.mono HB.out.size))
              clear hb
              go_wp2_with fail
              refine (HQ.out _).mono ?_
              rintro e w4 ⟨rfl, hb⟩
              have HB := hid (HB.out.trans (hb.mono HB.out.size))
              clear hb
              go_wp2_with fail
              refine (HT.out _ (HD.out.below HB.out)).mono ?_
              rintro e w5 ⟨rfl, hb⟩
              have HB := hid (HB.out.trans (hb.mono HB.out.size))
              clear hb
              go_wp2_with fail
              refine (L1.out _ (HD.out.below HB.out)).mono ?_
              rintro e w6 ⟨rfl, hb⟩
              have HB := hid (HB.out.trans (hb.mono HB.out.size))
              clear hb
              go_wp2_with fail
              refine (L2.out _ (HD.out.below HB.out)).mono ?_
              rintro e w7 ⟨rfl, hb⟩
              have HB := hid (HB.out.trans (hb.mono HB.out.size))
              clear hb
              go_wp2_with fail
              refine (F1.out _ (HD.out.below HB.out)).mono ?_
              rintro e w8 ⟨rfl, hb⟩
              have HB := hid (HB.out.trans (hb.mono HB.out.size))
              clear hb
              go_wp2_with fail
              refine (F2.out _ (HD.out.below HB.out)).mono ?_
              rintro e w9 ⟨rfl, hb⟩
              have HB := hid (HB.out.trans (hb.mono HB.out.size))
              clear hb
              go_wp2_with fail
              go_ret
              exact ⟨rfl, HB.out⟩
        · obtain ⟨e1, e2⟩ := sides_at HSM.out hn hb0 (-1) (-1) (-1) 0 (.inr (.inr (.inl ⟨rfl, rfl, rfl, rfl, rfl⟩)))
          have L1 := hid (fun w hd => HI.out (-1) (-1) w hd)
          have L2 := hid (fun w hd => HI.out (-1) 0 w hd)
          rw [e1] at L1
          rw [e2] at L2
          have t101 : ((s[0].toNat : Int) == 101) = false := by rw [hb0]; rfl
          have t110 : ((s[0].toNat : Int) == 110) = false := by rw [hb0]; rfl
          have t119 : ((s[0].toNat : Int) == 119) = true := by rw [hb0]; rfl
          have t115 : ((s[0].toNat : Int) == 115) = false := by rw [hb0]; rfl
          clear e1 e2 hb0 HSM
          rcases hT with hT | hT
          all_goals
            rw [hT] at HT L1 L2
            clear hT
            have L1 := hid L1.out
            have L2 := hid L2.out
            cases z
            all_goals
              go_wp2_with fail
              refine (HI0.out _ (HD.out.below HB.out)).mono ?_
              rintro e w2 ⟨rfl, hb⟩
              have HB := hid (HB.out.trans (hb.mono HB.out.size))
              clear hb
              go_wp2_with fail
              refine (HS.out _).mono ?_
              rintro e w3 ⟨rfl, hb⟩
              have HB := hid (HB.out.trans (hb.mono HB.out.size))
              clear hb
              go_wp2_with fail
              refine (HQ.out _).mono ?_
              rintro e w4 ⟨rfl, hb⟩
              have HB := hid (HB.out.trans (hb.mono HB.out.size))
              clear hb
              go_wp2_with fail
              refine (HT.out _ (HD.out.below HB.out)).mono ?_
              rintro e w5 ⟨rfl, hb⟩
              have HB := hid (HB.out.trans (hb.mono HB.out.size))
              clear hb
              go_wp2_with fail
              refine (L1.out _ (HD.out.below HB.out)).mono ?_
              rintro e w6 ⟨rfl, hb⟩
              have HB := hid (HB.out.trans (hb.mono HB.out.size))
              clear hb
              go_wp2_with fail
              refine (L2.out _ (HD.out.below HB.out)).mono ?_
              rintro e w7 ⟨rfl, hb⟩
              have HB := hid (HB.out.trans (hb.mono HB.out.size))
              clear hb
              go_wp2_with fail
              refine (F1.out _ (HD.out.below HB.out)).mono ?_
              rintro e w8 ⟨rfl, hb⟩
              have HB := hid (HB.out.trans (hb.mono HB.out.size))
              clear hb
              go_wp2_with fail
              refine (F2.out _ (HD.out.below HB.out)).mono ?_
              rintro e w9 ⟨rfl, hb⟩
              have HB := hid (HB.out.trans (hb.mono HB.out.size))
              clear hb
              go_wp2_with fail
              go_ret
              exact ⟨rfl, HB.out⟩
        · obtain ⟨e1, e2⟩ := sides_at HSM.out hn hb0 0 (-1) (-1) (-1) (.inr (.inr (.inr ⟨rfl, rfl, rfl, rfl, rfl⟩)))
          have L1 := hid (fun w hd => HI.out 0 (-1) w hd)
          have L2 := hid (fun w hd => HI.out (-1) (-1) w hd)
          rw [e1] at L1
          rw [e2] at L2
          have t101 : ((s[0].toNat : Int) == 101) = false := by rw [hb0]; rfl
          have t110 : ((s[0].toNat : Int) == 110) = false := by rw [hb0]; rfl
          have t119 : ((s[0].toNat : Int) == 119) = false := by rw [hb0]; rfl
          have t115 : ((s[0].toNat : Int) == 115) = true := by rw [hb0]; rfl
          clear e1 e2 hb0 HSM
          rcases hT with hT | hT
          all_goals
            rw [hT] at HT L1 L2
            clear hT
            have L1 := hid L1.out
            have L2 := hid L2.out
            cases z
            all_goals
              go_wp2_with fail
              refine (HI0.out _ (HD.out.below HB.out)).mono ?_
              rintro e w2 ⟨rfl, hb⟩
              have HB := hid (HB.out.trans (hb.mono HB.out.size))
              clear hb
              go_wp2_with fail
              refine (HS.out _).mono ?_
              rintro e w3 ⟨rfl, hb⟩
              have HB := hid (HB.out.trans (hb.mono HB.out.size))
              clear hb
              go_wp2_with fail
              refine (HQ.out _).mono ?_
              rintro e w4 ⟨rfl, hb⟩
              have HB := hid (HB.out.trans (hb.mono HB.out.size))
              clear hb
              go_wp2_with fail
              refine (HT.out _ (HD.out.below HB.out)).mono ?_
              rintro e w5 ⟨rfl, hb⟩
              have HB := hid (HB.out.trans (hb.mono HB.out.size))
              clear hb
              go_wp2_with fail
              refine (L1.out _ (HD.out.below HB.out)).mono ?_
              rintro e w6 ⟨rfl, hb⟩
              have HB := hid (HB.out.trans (hb.mono HB.out.size))
              clear hb
              go_wp2_with fail
              refine (L2.out _ (HD.out.below HB.out)).mono ?_
              rintro e w7 ⟨rfl, hb⟩
              have HB := hid (HB.out.trans (hb.mono HB.out.size))
              clear hb
              go_wp2_with fail
              refine (F1.out _ (HD.out.below HB.out)).mono ?_
              rintro e w8 ⟨rfl, hb⟩
              have HB := hid (HB.out.trans (hb.mono HB.out.size))
              clear hb
              go_wp2_with fail
              refine (F2.out _ (HD.out.below HB.out)).mono ?_
              rintro e w9 ⟨rfl, hb⟩
              have HB := hid (HB.out.trans (hb.mono HB.out.size))
              clear hb
              go_wp2_with fail
              go_ret
              exact ⟨rfl, HB.out⟩
end Go.Proofs.YtmojhdnehmjnmaaDoor
