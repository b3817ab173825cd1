/- Contract: impl.CurveWalk. -/
import Derived.Test.YtbklcalpojkjfaaDoorCurve
import Derived.Test.YtbklcalpojkjfaaDoorCurveP
import Derived.Test.YtbklcalpojkjfaaDoorBd
import Derived.Test.YtbklcalpojkjfaaDoorHil4
namespace Go.Proofs.YtbklcalpojkjfaaDoor
open Go.RowKit TW

/-- The letter of the step from one cell to the next one. -/
theorem letter_step (p q : Nat × Nat) (d : Nat) (h : CvStep p q d) (w : World) (hd : Dirs w) :
    Calls Tryd.prog 17 #[.int .i64 ((q.1 : Int) - (p.1 : Int)), .int .i64 ((q.2 : Int) - (p.2 : Int))] w fun e w' => e = .returned (.int .u8 ((cvC d).toNat : Int)) ∧ Below w.heap.size w w' := by
  rcases h with ⟨rfl, h1, h2⟩ | ⟨rfl, h1, h2⟩ | ⟨rfl, h1, h2⟩ | ⟨rfl, h1, h2⟩
  · rw [show (q.1 : Int) - (p.1 : Int) = 1 from by omega, show (q.2 : Int) - (p.2 : Int) = 0 from by omega]; exact letterTo_e w hd
  · rw [show (q.1 : Int) - (p.1 : Int) = 0 from by omega, show (q.2 : Int) - (p.2 : Int) = 1 from by omega]; exact letterTo_n w hd
  · rw [show (q.1 : Int) - (p.1 : Int) = -1 from by omega, show (q.2 : Int) - (p.2 : Int) = 0 from by omega]; exact letterTo_w w hd
  · rw [show (q.1 : Int) - (p.1 : Int) = 0 from by omega, show (q.2 : Int) - (p.2 : Int) = -1 from by omega]; exact letterTo_s w hd

set_option maxHeartbeats 1000000 in
theorem implCurve_c (h : Int) (w : World) (hd : Dirs w) :
    Calls Tryd.prog 6 #[.int .i64 h] w fun e w' => e = .returned (.string (curveS h)) ∧ Below w.heap.size w w' := by
  have HD := hid hd
  clear hd
  cases hv : hvOk h with
  | false =>
    have HR : Hid (curveS h = ByteArray.empty) := by unfold curveS; rw [hv]; rfl
    go_enter Tryd.func6, Tryd.ntmps6
    go_wp2_with (go_at_call 14; refine (halvesOk_c _ _).mono ?_; rintro e w' ⟨rfl, rfl⟩)
    go_ret
    exact ⟨ret_str HR.out.symm, Below.refl _ _⟩
  | true =>
    obtain ⟨k, rfl, hk⟩ := hvOk_nat hv
    have HR : Hid (curveS k = strOf (cvW k (4 ^ k - 1))) := by unfold curveS; rw [hv]; rfl
    have h0 := hid (BdAt.start w)
    have hp0 : 0 < 4 ^ k := Nat.pow_pos (by omega)
    have hw := wrap_pow (2 * k) (by omega)
    have e2 : (2 * (k : Int)).toNat = 2 * k := by omega
    have HP := hid (pow4 k hk)
    have f1 : hX k 0 = ((hil k 0).1 : Nat) := hX_of hk hp0
    have f2 : hY k 0 = ((hil k 0).2 : Nat) := hY_of hk hp0
    have f3 : nuOk k 0 = true := nuOk_of hk hp0
    clear hp0
    go_enter Tryd.func6, Tryd.ntmps6
    go_wp2_with (first
      | (go_at_call 14; refine (halvesOk_c _ _).mono ?_; rintro e w' ⟨rfl, rfl⟩)
      | (go_at_call 15; refine (implCell_c _ _ _).mono ?_; rintro e w' ⟨rfl, rfl⟩))
    clear f1 f2 f3
    go_loopg [4, 5, 7] 2000 (fun g x y i wr => ∃ m : Nat, g = 2000 - m ∧ m + 1 ≤ 4 ^ k ∧ i = .int .i64 ((m : Int) + 1) ∧ x = .int .i64 ((hil k m).1 : Nat) ∧ y = .int .i64 ((hil k m).2 : Nat) ∧ BdAt w (cvW k m) wr)
    case atStart => exact ⟨0, rfl, Nat.pow_pos (by omega), rfl, rfl, rfl, h0.out⟩
    case round =>
      obtain ⟨m, hg, hm, rfl, rfl, rfl, hB⟩ := hrel
      have HG := hid hg
      have HB := hid hB
      have HM := hid hm
      clear hg hB hm
      have hm1 : m ≤ 1023 := by have := HM.out; have := HP.out.2; omega
      by_cases hlt : m + 1 < 4 ^ k
      · have hb1 := hil_lt k hk m (by omega)
        have hb2 := hil_lt k hk (m + 1) hlt
        have h32 := (pow_le32 k hk).2.1
        have b1 : (hil k m).1 ≤ 32 ∧ (hil k m).2 ≤ 32 ∧ (hil k (m + 1)).1 ≤ 32 ∧ (hil k (m + 1)).2 ≤ 32 := by omega
        obtain ⟨b1, b2, b3, b4⟩ := b1
        have HC := hid (cv_step k hk m (by omega) hlt)
        have q1 : hX k ((m : Int) + 1) = ((hil k (m + 1)).1 : Nat) := hX_of hk hlt
        have q2 : hY k ((m : Int) + 1) = ((hil k (m + 1)).2 : Nat) := hY_of hk hlt
        have q3 : nuOk k ((m : Int) + 1) = true := nuOk_of hk hlt
        have hlt2 : (m : Int) + 1 < 2 ^ (2 * k) := by rw [HP.out.1]; omega
        clear hb1 hb2 h32 hlt
        generalize hil k m = p at *
        generalize hq : hil k (m + 1) = q at *
        have HQ := hid hq
        clear hq
        go_wp2_with (go_at_call 15; refine (implCell_c _ _ _).mono ?_; rintro e w' ⟨rfl, rfl⟩)
        refine (letter_step p q (cvD k m) HC.out _ (HD.out.below HB.out.2.2)).mono ?_
        rintro e w1 ⟨rfl, hb⟩
        have HB1 := hid (bd_behind HB.out hb)
        clear hb q1 q2 q3
        go_wp2_with fail
        refine (bd_write w _ _ (cvC (cvD k m)) _ rfl HB1.out (by rw [cvW_length]; omega)).mono ?_
        rintro e w2 ⟨rfl, hB2⟩
        have HB2 := hid hB2
        clear hB2
        go_wp2_with fail
        go_roundg (2000 - (m + 1))
        case measure => rw [HG.out]; omega
        case rel => exact ⟨m + 1, rfl, by have := HM.out; have : (m : Int) + 1 < ((4 ^ k : Nat) : Int) := by rw [← HP.out.1]; exact hlt2
                                          omega, by go_num, by rw [HQ.out], by rw [HQ.out], HB2.out⟩
      · have hge : ¬ ((m : Int) + 1 < 2 ^ (2 * k)) := by rw [HP.out.1]; omega
        have hm2 : m = 4 ^ k - 1 := by have := HM.out; omega
        have HM2 := hid hm2
        clear hm2 hlt
        go_wp2_with (go_at_call 18; refine (bd_string w _ _ HB.out).mono ?_; rintro e w' ⟨rfl, hbel⟩)
        go_ret
        exact ⟨ret_str (by rw [HR.out, ← HM2.out]), hbel⟩
end Go.Proofs.YtbklcalpojkjfaaDoor
