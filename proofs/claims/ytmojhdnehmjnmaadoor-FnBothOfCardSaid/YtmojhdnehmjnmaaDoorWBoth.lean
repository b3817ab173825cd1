/- The walk of FnBothOf. -/
import Derived.Test.YtmojhdnehmjnmaaDoorDrawZ
import Derived.Test.YtmojhdnehmjnmaaDoorSpE
import Derived.Test.YtmojhdnehmjnmaaDoorAlive
namespace Go.Proofs.YtmojhdnehmjnmaaDoor
open Go.RowKit TW

theorem lets_append (a b : ByteArray) : lets (a ++ b) = lets a ++ lets b := by unfold lets; rw [ByteArray.data_append, Array.toList_append]
theorem both_facts {a b : ByteArray} (h : btB a b = true) : clL (lets (a ++ b)) = true ∧ (∀ x y, wdR (lets (a ++ b)) x y = wdR (lets a) x y + wdR (lets b) x y) ∧ arR (lets (a ++ b)) = arR (lets a) + arR (lets b) ∧ clL (lets a) = true ∧ clL (lets b) = true ∧ a.size + b.size ≤ 40 := by
  unfold btB at h
  simp only [Bool.and_eq_true, decide_eq_true_eq] at h
  obtain ⟨h1, h2, h3⟩ := h
  have hc : clL (lets (a ++ b)) = true := by rw [lets_append]; exact app_cl h1 h2 (by rw [lets_len, lets_len]; exact h3)
  refine ⟨hc, fun x y => ?_, ?_, h1, h2, h3⟩
  · rw [wdR_yes hc, wdR_yes h1, wdR_yes h2, lets_append, app_wd h1]
  · rw [arR_yes hc, arR_yes h1, arR_yes h2, lets_append, app_ar h1]
theorem arR_le (l : List UInt8) : -2000 ≤ arR l ∧ arR l ≤ 2000 := by
  unfold arR
  split
  · rename_i h
    have h1 := wkL_len (clL_wk h)
    have h2 := arS_le l l.length h1
    have e : arS l l.length = arL l := rfl
    rw [e] at h2
    omega
  · omega
theorem wdR_le' (l : List UInt8) (x y : Int) : -40 ≤ wdR l x y ∧ wdR l x y ≤ 40 := by
  unfold wdR
  split
  · rename_i h
    have h1 := wkL_len (clL_wk h)
    have h2 := wdS_le l x y l.length
    have e : wdS l x y l.length = wdL l x y := rfl
    rw [e] at h2
    omega
  · omega

set_option maxRecDepth 100000 in
set_option maxHeartbeats 4000000 in
theorem walk_FnBothOf (ad : Option Addr) (len cap : Nat) (zs : List Int) (w : World) (h : IsRow .u8 w ad len cap zs) (hd : Dirs w) :
    Calls Tryd.prog 4 #[.slice ad len cap] w fun e w' => e = .returned (.bool true) ∧ Below w.heap.size w w' := by
  have HD := hid hd
  clear hd
  by_cases hbig : 1048576 < len
  · go_enter Tryd.func4, Tryd.ntmps4
    go_wp2
    go_ret
    exact ⟨rfl, Below.refl _ _⟩
  · go_enter Tryd.func4, Tryd.ntmps4
    go_wp2_with fail
    refine (drawBothOf_c _ _ _ _ _ h).mono ?_
    rintro e w1 ⟨a, b, rfl, ha, hb', hb⟩
    have HB := hid hb
    have HSA : Hid (a.size ≤ maxLen) := hid (by unfold maxLen; omega)
    have HSB : Hid (b.size ≤ maxLen) := hid (by unfold maxLen; omega)
    clear hb h
    have H1 := hid (fun w hd => implBothOf_c a b HSA.out HSB.out w hd)
    have H2 := hid (fun w => specBothOf_c a b HSA.out HSB.out w)
    cases hok : btB a b with
    | false =>
      have e1 := bt_no hok
      rw [hok, e1] at H1 H2
      clear hok e1
      go_wp2_with fail
      refine (H1.out _ (HD.out.below HB.out)).mono ?_
      rintro e w2 ⟨rfl, hb⟩
      have HB := hid (HB.out.trans (hb.mono HB.out.size))
      clear hb
      go_wp2_with fail
      refine (H2.out _).mono ?_
      rintro e w3 ⟨rfl, hb⟩
      have HB := hid (HB.out.trans (hb.mono HB.out.size))
      clear hb
      go_wp2_with (go_at_call 13; refine (alive_c _).mono ?_; rintro e w' ⟨rfl, rfl⟩)
      go_ret
      exact ⟨rfl, HB.out⟩
    | true =>
      have e1 := bt_yes hok
      obtain ⟨f1, f2, f3, f4, f5, f6⟩ := both_facts hok
      rw [hok, e1] at H1 H2
      have hcs : (a ++ b).size ≤ 40 := by rw [ByteArray.size_append]; exact f6
      clear hok e1 f6 ha hb'
      generalize a ++ b = c at *
      have HSC : Hid (c.size ≤ maxLen) := hid (by unfold maxLen; omega)
      have F2 := hid f2
      have HWa := hid (fun x y w hd => implWindingOf_c a HSA.out x y w hd)
      have HWb := hid (fun x y w hd => implWindingOf_c b HSB.out x y w hd)
      have HWc := hid (fun x y w hd => implWindingOf_c c HSC.out x y w hd)
      have HAa := hid (fun w hd => implAreaOf_c a HSA.out w hd)
      have HAb := hid (fun w hd => implAreaOf_c b HSB.out w hd)
      have HAc := hid (fun w hd => implAreaOf_c c HSC.out w hd)
      have HCc := hid (fun w hd => implClosedOk_c c HSC.out w hd)
      rw [f4] at HAa
      rw [f5] at HAb
      rw [f1, f3] at HAc
      rw [f1] at HCc
      obtain ⟨r1, r2⟩ := arR_le (lets a)
      obtain ⟨r3, r4⟩ := arR_le (lets b)
      clear f1 f2 f3 f4 f5
      generalize arR (lets a) = pa at *
      generalize arR (lets b) = pb at *
      go_wp2_with fail
      refine (H1.out _ (HD.out.below HB.out)).mono ?_
      rintro e w2 ⟨rfl, hb⟩
      have HB := hid (HB.out.trans (hb.mono HB.out.size))
      clear hb
      go_wp2_with fail
      refine (H2.out _).mono ?_
      rintro e w3 ⟨rfl, hb⟩
      have HB := hid (HB.out.trans (hb.mono HB.out.size))
      clear hb H1 H2
      go_wp2_with fail
      go_loopg [9] 50 (fun gg i wr => ∃ k : Nat, gg = 50 - k ∧ k ≤ 25 ∧ i = .int .i64 k ∧ Hid (Below w.heap.size w wr))
      case atStart => exact ⟨0, rfl, by omega, rfl, HB⟩
      case round =>
        clear HB
        obtain ⟨k, hgg, hk, rfl, HB⟩ := hrel
        have HGG := hid hgg
        clear hgg
        by_cases hlt : k < 25
        · have i1 : (k : Int) < 25 := by omega
          have i0 : (0 : Int) ≤ (k : Int) := Int.natCast_nonneg _
          have W1 := hid (fun w hd => HWa.out ((k : Int) / 5 - 2) ((k : Int) % 5 - 2) w hd)
          have W2 := hid (fun w hd => HWb.out ((k : Int) / 5 - 2) ((k : Int) % 5 - 2) w hd)
          have W3 := hid (fun w hd => HWc.out ((k : Int) / 5 - 2) ((k : Int) % 5 - 2) w hd)
          rw [F2.out] at W3
          obtain ⟨b1, b2⟩ := wdR_le' (lets a) ((k : Int) / 5 - 2) ((k : Int) % 5 - 2)
          obtain ⟨b3, b4⟩ := wdR_le' (lets b) ((k : Int) / 5 - 2) ((k : Int) % 5 - 2)
          generalize wdR (lets a) ((k : Int) / 5 - 2) ((k : Int) % 5 - 2) = z1 at *
          generalize wdR (lets b) ((k : Int) / 5 - 2) ((k : Int) % 5 - 2) = z2 at *
          go_wp2_with fail
          refine (W3.out _ (HD.out.below HB.out)).mono ?_
          rintro e w4 ⟨rfl, hb⟩
          have HB := hid (HB.out.trans (hb.mono HB.out.size))
          clear hb
          go_wp2_with fail
          refine (W1.out _ (HD.out.below HB.out)).mono ?_
          rintro e w5 ⟨rfl, hb⟩
          have HB := hid (HB.out.trans (hb.mono HB.out.size))
          clear hb
          go_wp2_with fail
          refine (W2.out _ (HD.out.below HB.out)).mono ?_
          rintro e w6 ⟨rfl, hb⟩
          have HB := hid (HB.out.trans (hb.mono HB.out.size))
          clear hb
          go_wp2_with fail
          go_roundg (50 - (k + 1))
          case measure => rw [HGG.out]; omega
          case rel => exact ⟨k + 1, rfl, by omega, by go_num, HB⟩
        · obtain rfl : k = 25 := by omega
          clear hlt
          go_wp2_with fail
          refine (HAa.out _ (HD.out.below HB.out)).mono ?_
          rintro e w4 ⟨rfl, hb⟩
          have HB := hid (HB.out.trans (hb.mono HB.out.size))
          clear hb
          go_wp2_with fail
          refine (HAb.out _ (HD.out.below HB.out)).mono ?_
          rintro e w5 ⟨rfl, hb⟩
          have HB := hid (HB.out.trans (hb.mono HB.out.size))
          clear hb
          go_wp2_with fail
          refine (HAc.out _ (HD.out.below HB.out)).mono ?_
          rintro e w6 ⟨rfl, hb⟩
          have HB := hid (HB.out.trans (hb.mono HB.out.size))
          clear hb
          go_wp2_with fail
          refine (HCc.out _ (HD.out.below HB.out)).mono ?_
          rintro e w7 ⟨rfl, hb⟩
          have HB := hid (HB.out.trans (hb.mono HB.out.size))
          clear hb
          go_wp2_with fail
          go_ret
          exact ⟨rfl, HB.out⟩
end Go.Proofs.YtmojhdnehmjnmaaDoor
