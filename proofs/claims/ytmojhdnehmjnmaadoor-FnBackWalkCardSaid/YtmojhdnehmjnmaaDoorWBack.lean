/- The walk of FnBackWalk. -/
import Derived.Test.YtmojhdnehmjnmaaDoorDrawZ
import Derived.Test.YtmojhdnehmjnmaaDoorPlI
import Derived.Test.YtmojhdnehmjnmaaDoorAlive
import Derived.Deep.RegionHeld3
namespace Go.Proofs.YtmojhdnehmjnmaaDoor
open Go.RowKit TW

set_option maxRecDepth 100000 in
set_option maxHeartbeats 8000000 in
theorem walk_FnBackWalk (a : Option Addr) (len cap : Nat) (zs : List Int) (w : World) (h : IsRow .u8 w a len cap zs) (hd : Dirs w) :
    Calls Tryd.prog 3 #[.slice a len cap] w fun e w' => e = .returned (.bool true) ∧ Below w.heap.size w w' := by
  have HD := hid hd
  clear hd
  by_cases hbig : 1048576 < len
  · go_enter Tryd.func3, Tryd.ntmps3
    go_wp2
    go_ret
    exact ⟨rfl, Below.refl _ _⟩
  · go_enter Tryd.func3, Tryd.ntmps3
    go_wp2_with fail
    refine (drawBackWalk_c _ _ _ _ _ h).mono ?_
    rintro e w1 ⟨s, rfl, hs, hb⟩
    have HB := hid hb
    have HSZ : Hid (s.size ≤ maxLen) := hid (by unfold maxLen; omega)
    clear hb h
    have H1 := hid (fun w => implBackWalk_c s HSZ.out w)
    have H2 := hid (fun w => specBackWalk_c s HSZ.out w)
    have H3 := hid (fun w => specWalkOk_c s HSZ.out w)
    cases hok : wkL (lets s) with
    | false =>
      have e1 := bkS_no hok
      rw [hok] at H3
      rw [e1] at H1 H2
      clear hok e1
      go_wp2_with fail
      refine (H1.out _).mono ?_
      rintro e w2 ⟨rfl, hb⟩
      have HB := hid (HB.out.trans (hb.mono HB.out.size))
      clear hb
      go_wp2_with fail
      refine (H2.out _).mono ?_
      rintro e w3 ⟨rfl, rfl⟩
      go_wp2_with fail
      refine (H3.out _).mono ?_
      rintro e w3 ⟨rfl, rfl⟩
      go_wp2_with (go_at_call 13; refine (alive_c _).mono ?_; rintro e w' ⟨rfl, rfl⟩)
      go_ret
      exact ⟨rfl, HB.out⟩
    | true =>
      have h40 := wkL_len hok
      rw [lets_len] at h40
      have eK := bkS_yes hok
      have hKl : lets (bkS s) = backL (lets s) := by rw [eK, lets_bStr]
      have hKok : wkL (lets (bkS s)) = true := by rw [hKl]; exact back_wk hok
      have hKs : (bkS s).size = s.size := by rw [eK, bStr_size, back_len, lets_len]
      have hKK : bkS (bkS s) = s := by rw [bkS_yes hKok, hKl, back_back hok, bStr_lets]
      obtain ⟨pe1, pe2⟩ := back_end hok
      rw [lets_len, ← hKl] at pe1 pe2
      rw [hok] at H3
      have HOK := hid hok
      have HKOK := hid hKok
      have HKS := hid hKs
      have HKM : Hid ((bkS s).size ≤ maxLen) := hid (by rw [hKs]; exact HSZ.out)
      have HP1 := hid pe1
      have HP2 := hid pe2
      clear hok eK hKl hKok hKs pe1 pe2
      generalize bkS s = K at *
      have H4 := hid (fun w => implBackWalk_c K HKM.out w)
      rw [hKK] at H4
      have H5 := hid (fun w => specPlacesOf_c s HSZ.out w)
      have H6 := hid (fun w => specPlacesOf_c K HKM.out w)
      have H7 := hid (fun w hd => implPlacesOf_c s HSZ.out w hd)
      have H8 := hid (fun w hd => implPlacesOf_c K HKM.out w hd)
      clear hKK
      go_wp2_with fail
      refine (H1.out _).mono ?_
      rintro e w2 ⟨rfl, hb⟩
      have HB := hid (HB.out.trans (hb.mono HB.out.size))
      clear hb
      go_wp2_with fail
      refine (H2.out _).mono ?_
      rintro e w3 ⟨rfl, rfl⟩
      go_wp2_with fail
      refine (H3.out _).mono ?_
      rintro e w3 ⟨rfl, rfl⟩
      go_wp2_with fail
      refine (H5.out _).mono ?_
      rintro e w4 ⟨va, rfl, hb, hp⟩
      have HB := hid (HB.out.trans (hb.mono HB.out.size))
      have HA := hid (hp.1 HOK.out)
      clear hb hp
      go_wp2_with fail
      refine (H6.out _).mono ?_
      rintro e w5 ⟨vb, rfl, hb, hp⟩
      have HB := hid (HB.out.trans (hb.mono HB.out.size))
      have HA := hid (HA.out.behind hb)
      have HV := hid (hp.1 HKOK.out)
      clear hb hp
      go_wp2_with fail
      refine (H7.out _ (HD.out.below HB.out)).mono ?_
      rintro e w6 ⟨vc, rfl, hb, hp⟩
      have HB := hid (HB.out.trans (hb.mono HB.out.size))
      have HA := hid (HA.out.behind hb)
      have HV := hid (HV.out.behind hb)
      have HC := hid (hp.1 HOK.out)
      clear hb hp
      go_wp2_with fail
      refine (sameRows_c vc va (lets s) _ (by rw [lets_len]; omega) _ HC.out HA.out).mono ?_
      rintro e w7 ⟨rfl, hb⟩
      have HB := hid (HB.out.trans (hb.mono HB.out.size))
      have HA := hid (HA.out.behind hb)
      have HV := hid (HV.out.behind hb)
      clear hb HC
      go_wp2_with fail
      refine (H8.out _ (HD.out.below HB.out)).mono ?_
      rintro e w8 ⟨vd, rfl, hb, hp⟩
      have HB := hid (HB.out.trans (hb.mono HB.out.size))
      have HA := hid (HA.out.behind hb)
      have HV := hid (HV.out.behind hb)
      have HC := hid (hp.1 HKOK.out)
      clear hb hp
      go_wp2_with fail
      refine (sameRows_c vd vb (lets K) _ (by rw [lets_len, HKS.out]; omega) _ HC.out HV.out).mono ?_
      rintro e w9 ⟨rfl, hb⟩
      have HB := hid (HB.out.trans (hb.mono HB.out.size))
      have HA := HA.out.behind hb
      have HV := HV.out.behind hb
      clear hb HC H1 H2 H3 H5 H6 H7 H8
      obtain ⟨g1, c1, rfl, hle1, hm1, hg1, hr1⟩ := HA
      obtain ⟨g2, c2, rfl, hle2, hm2, hg2, hr2⟩ := HV
      obtain ⟨r1, e1, q1, q2, q3⟩ := hr1 s.size (by rw [lets_len]; omega)
      obtain ⟨r2, e2, q4, q5, q6⟩ := hr2 s.size (by rw [lets_len, HKS.out]; omega)
      obtain ⟨n, hn⟩ : ∃ n : Nat, n = s.size + 1 := ⟨_, rfl⟩
      have en1 : (lets s).length + 1 = n := by rw [lets_len]; omega
      have en2 : (lets K).length + 1 = n := by rw [lets_len, HKS.out]; omega
      rw [en1] at hle1
      rw [en2] at hle2
      rw [en1, en2]
      obtain ⟨bx1, bx2⟩ := PX_le (lets s) s.size
      obtain ⟨by1, by2⟩ := PY_le (lets s) s.size
      have wx : IntKind.i64.wrap (-(PX (lets K) s.size)) = PX (lets s) s.size := by rw [HP1.out, IntWalk.i64_in _ (by omega)]; omega
      have wy : IntKind.i64.wrap (-(PY (lets K) s.size)) = PY (lets s) s.size := by rw [HP2.out, IntWalk.i64_in _ (by omega)]; omega
      have i1 : (s.size : Int) < (n : Int) := by omega
      have i2 : (0 : Int) ≤ (s.size : Int) := by omega
      have i3 : ((s.size : Int)).toNat = s.size := by omega
      clear hr1 hr2 en1 en2 hn HP1 HP2 bx1 bx2 by1 by2
      generalize PX (lets s) s.size = x at *
      generalize PY (lets s) s.size = y at *
      generalize PX (lets K) s.size = x' at *
      generalize PY (lets K) s.size = y' at *
      have HBc : Hid (Below w9.heap.size w9 w9.drew) := hid (Below.refl _ _).drew
      have KS : Hid (∀ w', Below w9.heap.size w9 w' → w'.cell? ⟨g1, s.size, none⟩ = some (.slice (some ⟨r1, 0, none⟩) 2 2) ∧ w'.cell? ⟨r1, 0, none⟩ = some (.int .i64 x) ∧ w'.cell? ⟨r1, 1, none⟩ = some (.int .i64 y) ∧ w'.cell? ⟨g2, s.size, none⟩ = some (.slice (some ⟨r2, 0, none⟩) 2 2) ∧ w'.cell? ⟨r2, 0, none⟩ = some (.int .i64 x') ∧ w'.cell? ⟨r2, 1, none⟩ = some (.int .i64 y')) :=
        hid (fun w' hb => ⟨(hb.cell (p := ⟨g1, s.size, none⟩) hg1).trans q1, (hb.cell (p := ⟨r1, 0, none⟩) e1).trans q2, (hb.cell (p := ⟨r1, 1, none⟩) e1).trans q3, (hb.cell (p := ⟨g2, s.size, none⟩) hg2).trans q4, (hb.cell (p := ⟨r2, 0, none⟩) e2).trans q5, (hb.cell (p := ⟨r2, 1, none⟩) e2).trans q6⟩)
      clear hg1 hg2 e1 e2
      go_wp2_with fail
      go_region_held3 (fun w' => w'.cell? ⟨g1, s.size, none⟩ = some (.slice (some ⟨r1, 0, none⟩) 2 2) ∧ w'.cell? ⟨r1, 0, none⟩ = some (.int .i64 x) ∧ w'.cell? ⟨r1, 1, none⟩ = some (.int .i64 y) ∧ w'.cell? ⟨g2, s.size, none⟩ = some (.slice (some ⟨r2, 0, none⟩) 2 2) ∧ w'.cell? ⟨r2, 0, none⟩ = some (.int .i64 x') ∧ w'.cell? ⟨r2, 1, none⟩ = some (.int .i64 y')) (first | exact KS.out _ HBc.out)
        (first
          | (go_at_call 10
             refine (H4.out _).mono ?_
             rintro e w10 ⟨rfl, hb⟩
             have HBc := hid (HBc.out.trans (hb.mono HBc.out.size))
             clear hb))
      go_wp2_with fail
      go_ret
      exact ⟨rfl, HB.out.trans (HBc.out.mono HB.out.size)⟩
end Go.Proofs.YtmojhdnehmjnmaaDoor
