/- The walk of FnGoingOff. -/
import Derived.Test.YtbeacmealippmaaDoorTwQ
import Derived.Test.YtbeacmealippmaaDoorDrawPk
import Derived.Test.YtbeacmealippmaaDoorIntS
import Derived.Test.YtbeacmealippmaaDoorTurns
import Derived.Test.YtbeacmealippmaaDoorAlive
import Derived.Deep.LoopGhost
namespace Go.Proofs.YtbeacmealippmaaDoor
open Go.RowKit TW

theorem mod_two : ∀ n : Nat, n < 10 → (((n : Int).tmod 2) == 0) = (n % 2 == 0) := by decide
theorem clL_le6 (o : Int) : (clL' o).length ≤ 600 := by
  unfold clL'
  split
  · rename_i h
    simp only [Bool.and_eq_true, decide_eq_true_eq] at h
    have h1 := clTo_le o.toNat (2 ^ o.toNat)
    have h2 := (pow_512 o.toNat (by omega)).1
    omega
  · exact Nat.zero_le _

set_option maxHeartbeats 1000000 in
theorem walk_FnGoingOff (a : Option Addr) (len cap : Nat) (zs : List Int) (w : World) (h : IsRow .u8 w a len cap zs) (hd : Dirs w) :
    Calls Tryd.prog 7 #[.slice a len cap] w fun e w' => e = .returned (.bool true) ∧ Below w.heap.size w w' := by
  have HD := hid hd
  clear hd
  by_cases hbig : 1048576 < len
  · go_enter Tryd.func7, Tryd.ntmps7
    go_wp2
    go_ret
    exact ⟨rfl, Below.refl _ _⟩
  · go_enter Tryd.func7, Tryd.ntmps7
    go_wp2_with fail
    refine (drawGoingOff_c _ _ _ _ _ h).mono ?_
    rintro e w1 ⟨x, rfl, hx0, hx1, hb⟩
    have HB := hid hb
    clear hb h
    go_wp2_with fail
    refine (implOff_c x _ (HD.out.below HB.out)).mono ?_
    rintro e w2 ⟨rfl, hb⟩
    have HB := hid (HB.out.trans (hb.mono HB.out.size))
    clear hb
    go_wp2_with fail
    refine (specOff_c x _).mono ?_
    rintro e w3 ⟨rfl, hb⟩
    have HB := hid (HB.out.trans (hb.mono HB.out.size))
    clear hb
    cases hv : (decide (1 ≤ x) && decide (x ≤ 9)) with
    | false =>
      have HR : Hid (offI x = -1) := by unfold offI; rw [hv]; rfl
      rw [HR.out]
      clear hv
      go_wp2_with (go_at_call 14; refine (alive_c _).mono ?_; rintro e w' ⟨rfl, rfl⟩)
      go_ret
      exact ⟨rfl, HB.out⟩
    | true =>
      have hv2 := hv
      simp only [Bool.and_eq_true, decide_eq_true_eq] at hv2
      obtain ⟨n, rfl⟩ := Int.eq_ofNat_of_zero_le (show 0 ≤ x by omega)
      have HR : Hid (offI n = (offTo n (2 ^ n) : Nat)) := by unfold offI; rw [hv]; rfl
      have HC : Hid (clL' n = clTo n (2 ^ n)) := by unfold clL'; rw [hv]; rfl
      have hn1 : 1 ≤ n := by omega
      have hn9 : n < 10 := by omega
      obtain ⟨hM, hM2⟩ := pow_512 n hn9
      have hs := off_sum hn1 hn9 (2 ^ n) (Nat.le_refl _)
      have ho := off_odd hn1 hn9
      have hof := offTo_le n (2 ^ n)
      have hcl := clTo_le n (2 ^ n)
      rw [HR.out]
      have HS := hid hs
      have HO := hid (fun h => ho h (2 ^ n) (Nat.le_refl _))
      clear hv hs ho hx0 hx1
      obtain ⟨M, hMM⟩ : ∃ M : Nat, M = 2 ^ n := ⟨_, rfl⟩
      rw [← hMM] at hM hM2 hof hcl HS HO HC
      rw [← hMM]
      have HM := hid hMM
      generalize hq : offTo n M = q at *
      have HQ := hid hq
      clear hMM hq
      have hw : wrap64 (2 ^ n) = (M : Int) := by rw [wrap_pow n (by omega)]; exact hM2
      clear hM2
      go_wp2_with fail
      go_loopg [5, 6] 2000 (fun g s i wr => ∃ m : Nat, g = 2000 - m ∧ m ≤ M ∧ i = .int .i64 m ∧ s = .int .i64 (fourTo n m : Nat) ∧ Below w.heap.size w wr)
      case atStart => exact ⟨0, rfl, Nat.zero_le _, rfl, rfl, HB.out⟩
      case round =>
        clear HB
        obtain ⟨m, hg, hm, rfl, rfl, hB⟩ := hrel
        have HG := hid hg
        have HB := hid hB
        clear hg hB
        by_cases hlt : m < M
        · have hlt' : (m : Int) < (M : Int) := by omega
          have hok := spOk_of hn1 (by omega) (show m < 2 ^ n by rw [← HM.out]; exact hlt)
          have hf := spFacts hok
          have hbd := hf.bd
          have HF := hid hf
          have ht : ((turnsOf (wordFor n m)).tmod 4 == 0) = four1 n m := by
            unfold turnsOf four1; rw [hf.ok, wordFor_of hok]; rfl
          have hle := fourTo_le n m
          have hwk := hf.ok
          have HSZ := hid hf.le
          have HFS : Hid (fourTo n (m + 1) = fourTo n m + if four1 n m then 1 else 0) := hid rfl
          generalize hT : turnsOf (wordFor n m) = T at *
          have HT := hid hT
          clear hT
          obtain ⟨hb0, hb1⟩ := hbd
          generalize hfm : fourTo n m = F at *
          have HFM := hid hfm
          have HWK := hid hwk
          clear hf hok hfm hwk HF
          go_wp2_with fail
          refine (specSpiralWord_c _ _ _).mono ?_
          rintro e w4 ⟨rfl, rfl⟩
          go_wp2_with fail
          refine (turnsOf_c (wordFor n m) (by have := HSZ.out; unfold maxLen; omega) _).mono ?_
          rintro e w4 ⟨rfl, rfl⟩
          rw [HWK.out, HT.out]
          cases hq4 : four1 n m with
          | false =>
            rw [hq4] at ht
            have HE : Hid (fourTo n (m + 1) = F) := hid (by rw [HFS.out, hq4]; rfl)
            clear hq4
            go_wp2_with fail
            go_roundg (2000 - (m + 1))
            case measure => rw [HG.out]; omega
            case rel => exact ⟨m + 1, rfl, by omega, by go_num, by rw [HE.out], HB.out⟩
          | true =>
            rw [hq4] at ht
            have HE : Hid (fourTo n (m + 1) = F + 1) := hid (by rw [HFS.out, hq4]; rfl)
            clear hq4
            go_wp2_with fail
            go_roundg (2000 - (m + 1))
            case measure => rw [HG.out]; omega
            case rel => exact ⟨m + 1, rfl, by omega, by go_num, by rw [HE.out]; rfl, HB.out⟩
        · have hlt' : ¬ (m : Int) < (M : Int) := by omega
          obtain rfl : m = M := by omega
          have hle := fourTo_le n m
          have hsum := HS.out
          have HOO := hid (fun h => HO.out h)
          generalize fourTo n m = F at *
          have hl6 := clL_le6 (n : Int)
          rw [HC.out] at hl6
          go_upto_region 18 with fail
          by_cases hodd : n % 2 = 1
          · have hF := HO.out hodd
            have hq0 : q = 0 := by omega
            have ht2 : (((n : Int).tmod 2) == 0) = false := by rw [mod_two n hn9, hodd]; rfl
            subst hq0
            go_wp2_with fail
            refine (implClosed_c n _ (HD.out.below HB.out)).mono ?_
            rintro e w5 ⟨v, rfl, hO, hB⟩
            obtain ⟨ad, cap2, rfl, _⟩ := hO.view
            have HB := hid (HB.out.trans (hB.mono HB.out.size))
            clear hO hB
            rw [HC.out]
            have hc0 : (clTo n m).length = 0 := by omega
            rw [hc0]
            go_wp2_with fail
            go_ret
            exact ⟨rfl, HB.out⟩
          · have ht2 : (((n : Int).tmod 2) == 0) = true := by rw [mod_two n hn9, show n % 2 = 0 by omega]; rfl
            go_wp2_with fail
            refine (implClosed_c n _ (HD.out.below HB.out)).mono ?_
            rintro e w5 ⟨v, rfl, hO, hB⟩
            obtain ⟨ad, cap2, rfl, _⟩ := hO.view
            have HB := hid (HB.out.trans (hB.mono HB.out.size))
            clear hO hB
            rw [HC.out]
            have hsi : (((q : Int) + ((clTo n m).length : Int)) == (F : Int)) = true := by rw [beq_iff_eq]; omega
            go_wp2_with fail
            go_ret
            exact ⟨rfl, HB.out⟩
end Go.Proofs.YtbeacmealippmaaDoor
