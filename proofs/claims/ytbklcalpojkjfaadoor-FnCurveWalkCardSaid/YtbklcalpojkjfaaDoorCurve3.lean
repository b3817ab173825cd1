/- Contract: spec.CurveWalk. -/
import Derived.Test.YtbklcalpojkjfaaDoorTurtle
import Derived.Test.YtbklcalpojkjfaaDoorCurveP
import Derived.Test.YtbklcalpojkjfaaDoorHil2
import Derived.LoopN
import Derived.Deep.LoopGhost
namespace Go.Proofs.YtbklcalpojkjfaaDoor
open Go.RowKit TW

theorem letter_size {t x : ByteArray} {n : Nat} (h : t.size ≤ n) (hx : x.size = 1) : (t ++ x).size ≤ n + 1 := by rw [ByteArray.size_append]; omega
def l8Args (k n : Nat) : Prop := k < 6 ∧ n < 4 ^ k
/-- The walk so far behind the tests of some directions. -/
def cvSo (l : List UInt8) (d j : Nat) : ByteArray := if j ≤ d then strOf l else strOf (l ++ [cvC d])

set_option maxHeartbeats 2000000 in
theorem specCurve_c (h : Int) (w : World) :
    Calls Tryd.prog 5 #[.int .i64 h] w fun e w' => e = .returned (.string (curveS h)) ∧ Below w.heap.size w w' := by
  cases hv : hvOk h with
  | false =>
    have HR : Hid (curveS h = ByteArray.empty) := by unfold curveS; rw [hv]; rfl
    have f3 : nuOk h 0 = false := by unfold nuOk; rw [hv]; rfl
    go_enter Tryd.func5, Tryd.ntmps5
    go_wp2_with (go_at_call 10; refine (specCell_c _ _ _).mono ?_; rintro e w' ⟨rfl, rfl⟩)
    refine wp_loop_rounds 1 ?_
    rw [rounds_succ]
    go_wp2_with fail
    go_ret
    exact ⟨ret_str HR.out.symm, Below.refl _ _⟩
  | true =>
    obtain ⟨k, rfl, hk⟩ := hvOk_nat hv
    have HR : Hid (curveS k = strOf (cvW k (4 ^ k - 1))) := by unfold curveS; rw [hv]; rfl
    have hp0 : 0 < 4 ^ k := Nat.pow_pos (by omega)
    have hw := wrap_pow (2 * k) (by omega)
    have e2 : (2 * (k : Int)).toNat = 2 * k := by omega
    have HP := hid (pow4 k hk)
    have f1 : hX k 0 = ((hil k 0).1 : Nat) := hX_of hk hp0
    have f2 : hY k 0 = ((hil k 0).2 : Nat) := hY_of hk hp0
    have f3 : nuOk k 0 = true := nuOk_of hk hp0
    clear hp0
    go_enter Tryd.func5, Tryd.ntmps5
    go_wp2_with (go_at_call 10; refine (specCell_c _ _ _).mono ?_; rintro e w' ⟨rfl, rfl⟩)
    clear f1 f2 f3
    go_loopg [3, 4, 5, 7] 2000 (fun g o x y i wr => ∃ (m : Nat) (s : ByteArray), g = 2000 - m ∧ m + 1 ≤ 4 ^ k ∧ i = .int .i64 ((m : Int) + 1) ∧ x = .int .i64 ((hil k m).1 : Nat) ∧ y = .int .i64 ((hil k m).2 : Nat) ∧ o = .string s ∧ s.size ≤ 1100 ∧ Hid (s = strOf (cvW k m)) ∧ Below w.heap.size w wr)
    case atStart => exact ⟨0, ByteArray.empty, rfl, Nat.pow_pos (by omega), rfl, rfl, rfl, rfl, by decide, rfl, Below.refl _ _⟩
    case round =>
      obtain ⟨m, s, hg, hm, rfl, rfl, rfl, rfl, hsz, HS, hB⟩ := hrel
      have HG := hid hg
      have HB := hid hB
      have HM := hid hm
      clear hg hB hm
      have hm1 : m ≤ 1023 := by have := HM.out; have := HP.out.2; omega
      by_cases hlt : m + 1 < 4 ^ k
      · have hb1 := hil_lt k hk m (by omega)
        have hb2 := hil_lt k hk (m + 1) hlt
        have h32 := (pow_le32 k hk).2.1
        have b1 : (hil k m).1 ≤ 32 ∧ (hil k m).2 ≤ 32 ∧ (hil k (m + 1)).1 ≤ 32 ∧ (hil k (m + 1)).2 ≤ 32 := by omega
        obtain ⟨b1, b2, b3, b4⟩ := b1
        have hC := cv_step k hk m (by omega) hlt
        have hlt2 : (m : Int) + 1 < 2 ^ (2 * k) := by rw [HP.out.1]; omega
        have hc : l8Args k (m + 1) := ⟨hk, hlt⟩
        have HK := hid hc
        have HD := hid (rfl : cvD k m = cvD k m)
        clear hb1 hb2 h32 hlt hc
        generalize hp : hil k m = p at *
        generalize hq : hil k (m + 1) = q at *
        have HQ := hid hq
        clear hp hq
        generalize hd : cvD k m = D at *
        have HDD := hid hd
        clear hd HD
        have hcell := l8Cell_c k (m + 1) HK.out.1 HK.out.2
        rw [HQ.out] at hcell
        have HCell := hid hcell
        clear hcell
        go_wp2_with fail
        refine (HCell.out _).mono ?_
        rintro e w1 ⟨rfl, rfl⟩
        have HT : Hid (∀ j, j = D → cvSo (cvW k m) D j ++ ⟨#[cvC D]⟩ = cvSo (cvW k m) D (j + 1)) := fun j hj => by
          subst hj
          unfold cvSo
          rw [if_pos (Nat.le_refl _), if_neg (by omega), ← strOf_append]; rfl
        have HN : Hid (∀ j, j ≠ D → cvSo (cvW k m) D j = cvSo (cvW k m) D (j + 1)) := fun j hj => by
          unfold cvSo
          by_cases e : j ≤ D
          · rw [if_pos e, if_pos (by omega)]
          · rw [if_neg e, if_neg (by omega)]
        have HS0 : Hid (s = cvSo (cvW k m) D 0) := by rw [HS.out]; unfold cvSo; rw [if_pos (by omega)]; exact hid rfl
        have HSe : Hid (D < 4 → cvSo (cvW k m) D 4 = strOf (cvW k (m + 1))) := fun h4 => by
          unfold cvSo; rw [if_neg (by omega), cvW, HDD.out]
        clear HCell
        go_wp2_with fail
        go_loopg [3, 10] 5 (fun g o j wr => ∃ (j' : Nat) (t : ByteArray), g = 5 - j' ∧ j' ≤ 4 ∧ j = .int .i64 j' ∧ o = .string t ∧ t.size ≤ 1100 + j' ∧ Hid (t = cvSo (cvW k m) D j') ∧ Below w.heap.size w wr)
        case atStart => exact ⟨0, s, rfl, by omega, rfl, rfl, by omega, HS0.out, HB.out⟩
        case round =>
          clear HB HS HS0
          obtain ⟨j, t, hg2, hj, rfl, rfl, hts, HTT, hB⟩ := hrel
          have HG2 := hid hg2
          have HB := hid hB
          clear hg2 hB hsz
          by_cases hlt4 : j < 4
          · have HTj := hid (HT.out j)
            have HNj := hid (HN.out j)
            have d0 : dxI 0 = 1 := rfl
            have d1 : dxI 1 = 0 := rfl
            have d2 : dxI 2 = -1 := rfl
            have d3 : dxI 3 = 0 := rfl
            have g0 : dyI 0 = 0 := rfl
            have g1 : dyI 1 = 1 := rfl
            have g2 : dyI 2 = 0 := rfl
            have g3 : dyI 3 = -1 := rfl
            clear HT HN HSe
            obtain ⟨px, py⟩ := p
            obtain ⟨qx, qy⟩ := q
            unfold CvStep at hC
            simp only at hC b1 b2 b3 b4
            clear hj hlt2 e2 hw
            obtain rfl | rfl | rfl | rfl : j = 0 ∨ j = 1 ∨ j = 2 ∨ j = 3 := by omega
            · rcases hC with ⟨rfl, h1, h2⟩ | ⟨rfl, h1, h2⟩ | ⟨rfl, h1, h2⟩ | ⟨rfl, h1, h2⟩
              · have t1 : (((px : Nat) : Int) + 1 == ((qx : Nat) : Int)) = true := by simp only [beq_iff_eq]; omega
                have t2 : (((py : Nat) : Int) == ((qy : Nat) : Int)) = true := by simp only [beq_iff_eq]; omega
                clear h1 h2
                go_wp2_with fail
                refine (l1East_c _ (by omega) _).mono ?_
                rintro e w2 ⟨rfl, hb2⟩
                have HB := hid (HB.out.trans (hb2.mono HB.out.size))
                clear hb2
                go_wp2_with (go_at_call 13; refine (l1North_c _ (by omega) _).mono ?_; rintro e w3 ⟨rfl, hb3⟩; have HB := hid (HB.out.trans (hb3.mono HB.out.size)); clear hb3)
                go_roundg (5 - 1)
                case measure => rw [HG2.out]; omega
                case rel => exact ⟨1, _, rfl, by omega, rfl, rfl, letter_size hts (by decide), hid (by rw [HTT.out]; exact HTj.out (by simp)), HB.out⟩
              · have t1 : (((px : Nat) : Int) + 1 == ((qx : Nat) : Int)) = false := by simp only [beq_eq_false_iff_ne]; omega
                have t2 : (((py : Nat) : Int) == ((qy : Nat) : Int)) = false := by simp only [beq_eq_false_iff_ne]; omega
                clear h1 h2
                go_wp2_with fail
                refine (l1East_c _ (by omega) _).mono ?_
                rintro e w2 ⟨rfl, hb2⟩
                have HB := hid (HB.out.trans (hb2.mono HB.out.size))
                clear hb2
                go_wp2_with (go_at_call 13; refine (l1North_c _ (by omega) _).mono ?_; rintro e w3 ⟨rfl, hb3⟩; have HB := hid (HB.out.trans (hb3.mono HB.out.size)); clear hb3)
                go_roundg (5 - 1)
                case measure => rw [HG2.out]; omega
                case rel => exact ⟨1, t, rfl, by omega, rfl, rfl, by omega, hid (by rw [HTT.out]; exact HNj.out (by decide)), HB.out⟩
              · have t1 : (((px : Nat) : Int) + 1 == ((qx : Nat) : Int)) = false := by simp only [beq_eq_false_iff_ne]; omega
                have t2 : (((py : Nat) : Int) == ((qy : Nat) : Int)) = true := by simp only [beq_iff_eq]; omega
                clear h1 h2
                go_wp2_with fail
                refine (l1East_c _ (by omega) _).mono ?_
                rintro e w2 ⟨rfl, hb2⟩
                have HB := hid (HB.out.trans (hb2.mono HB.out.size))
                clear hb2
                go_wp2_with (go_at_call 13; refine (l1North_c _ (by omega) _).mono ?_; rintro e w3 ⟨rfl, hb3⟩; have HB := hid (HB.out.trans (hb3.mono HB.out.size)); clear hb3)
                go_roundg (5 - 1)
                case measure => rw [HG2.out]; omega
                case rel => exact ⟨1, t, rfl, by omega, rfl, rfl, by omega, hid (by rw [HTT.out]; exact HNj.out (by decide)), HB.out⟩
              · have t1 : (((px : Nat) : Int) + 1 == ((qx : Nat) : Int)) = false := by simp only [beq_eq_false_iff_ne]; omega
                have t2 : (((py : Nat) : Int) == ((qy : Nat) : Int)) = false := by simp only [beq_eq_false_iff_ne]; omega
                clear h1 h2
                go_wp2_with fail
                refine (l1East_c _ (by omega) _).mono ?_
                rintro e w2 ⟨rfl, hb2⟩
                have HB := hid (HB.out.trans (hb2.mono HB.out.size))
                clear hb2
                go_wp2_with (go_at_call 13; refine (l1North_c _ (by omega) _).mono ?_; rintro e w3 ⟨rfl, hb3⟩; have HB := hid (HB.out.trans (hb3.mono HB.out.size)); clear hb3)
                go_roundg (5 - 1)
                case measure => rw [HG2.out]; omega
                case rel => exact ⟨1, t, rfl, by omega, rfl, rfl, by omega, hid (by rw [HTT.out]; exact HNj.out (by decide)), HB.out⟩
            · rcases hC with ⟨rfl, h1, h2⟩ | ⟨rfl, h1, h2⟩ | ⟨rfl, h1, h2⟩ | ⟨rfl, h1, h2⟩
              · have t1 : (((px : Nat) : Int) == ((qx : Nat) : Int)) = false := by simp only [beq_eq_false_iff_ne]; omega
                have t2 : (((py : Nat) : Int) + 1 == ((qy : Nat) : Int)) = false := by simp only [beq_eq_false_iff_ne]; omega
                clear h1 h2
                go_wp2_with fail
                refine (l1East_c _ (by omega) _).mono ?_
                rintro e w2 ⟨rfl, hb2⟩
                have HB := hid (HB.out.trans (hb2.mono HB.out.size))
                clear hb2
                go_wp2_with (go_at_call 13; refine (l1North_c _ (by omega) _).mono ?_; rintro e w3 ⟨rfl, hb3⟩; have HB := hid (HB.out.trans (hb3.mono HB.out.size)); clear hb3)
                go_roundg (5 - 2)
                case measure => rw [HG2.out]; omega
                case rel => exact ⟨2, t, rfl, by omega, rfl, rfl, by omega, hid (by rw [HTT.out]; exact HNj.out (by decide)), HB.out⟩
              · have t1 : (((px : Nat) : Int) == ((qx : Nat) : Int)) = true := by simp only [beq_iff_eq]; omega
                have t2 : (((py : Nat) : Int) + 1 == ((qy : Nat) : Int)) = true := by simp only [beq_iff_eq]; omega
                clear h1 h2
                go_wp2_with fail
                refine (l1East_c _ (by omega) _).mono ?_
                rintro e w2 ⟨rfl, hb2⟩
                have HB := hid (HB.out.trans (hb2.mono HB.out.size))
                clear hb2
                go_wp2_with (go_at_call 13; refine (l1North_c _ (by omega) _).mono ?_; rintro e w3 ⟨rfl, hb3⟩; have HB := hid (HB.out.trans (hb3.mono HB.out.size)); clear hb3)
                go_roundg (5 - 2)
                case measure => rw [HG2.out]; omega
                case rel => exact ⟨2, _, rfl, by omega, rfl, rfl, letter_size hts (by decide), hid (by rw [HTT.out]; exact HTj.out (by simp)), HB.out⟩
              · have t1 : (((px : Nat) : Int) == ((qx : Nat) : Int)) = false := by simp only [beq_eq_false_iff_ne]; omega
                have t2 : (((py : Nat) : Int) + 1 == ((qy : Nat) : Int)) = false := by simp only [beq_eq_false_iff_ne]; omega
                clear h1 h2
                go_wp2_with fail
                refine (l1East_c _ (by omega) _).mono ?_
                rintro e w2 ⟨rfl, hb2⟩
                have HB := hid (HB.out.trans (hb2.mono HB.out.size))
                clear hb2
                go_wp2_with (go_at_call 13; refine (l1North_c _ (by omega) _).mono ?_; rintro e w3 ⟨rfl, hb3⟩; have HB := hid (HB.out.trans (hb3.mono HB.out.size)); clear hb3)
                go_roundg (5 - 2)
                case measure => rw [HG2.out]; omega
                case rel => exact ⟨2, t, rfl, by omega, rfl, rfl, by omega, hid (by rw [HTT.out]; exact HNj.out (by decide)), HB.out⟩
              · have t1 : (((px : Nat) : Int) == ((qx : Nat) : Int)) = true := by simp only [beq_iff_eq]; omega
                have t2 : (((py : Nat) : Int) + 1 == ((qy : Nat) : Int)) = false := by simp only [beq_eq_false_iff_ne]; omega
                clear h1 h2
                go_wp2_with fail
                refine (l1East_c _ (by omega) _).mono ?_
                rintro e w2 ⟨rfl, hb2⟩
                have HB := hid (HB.out.trans (hb2.mono HB.out.size))
                clear hb2
                go_wp2_with (go_at_call 13; refine (l1North_c _ (by omega) _).mono ?_; rintro e w3 ⟨rfl, hb3⟩; have HB := hid (HB.out.trans (hb3.mono HB.out.size)); clear hb3)
                go_roundg (5 - 2)
                case measure => rw [HG2.out]; omega
                case rel => exact ⟨2, t, rfl, by omega, rfl, rfl, by omega, hid (by rw [HTT.out]; exact HNj.out (by decide)), HB.out⟩
            · rcases hC with ⟨rfl, h1, h2⟩ | ⟨rfl, h1, h2⟩ | ⟨rfl, h1, h2⟩ | ⟨rfl, h1, h2⟩
              · have t1 : (((px : Nat) : Int) + -1 == ((qx : Nat) : Int)) = false := by simp only [beq_eq_false_iff_ne]; omega
                have t2 : (((py : Nat) : Int) == ((qy : Nat) : Int)) = true := by simp only [beq_iff_eq]; omega
                clear h1 h2
                go_wp2_with fail
                refine (l1East_c _ (by omega) _).mono ?_
                rintro e w2 ⟨rfl, hb2⟩
                have HB := hid (HB.out.trans (hb2.mono HB.out.size))
                clear hb2
                go_wp2_with (go_at_call 13; refine (l1North_c _ (by omega) _).mono ?_; rintro e w3 ⟨rfl, hb3⟩; have HB := hid (HB.out.trans (hb3.mono HB.out.size)); clear hb3)
                go_roundg (5 - 3)
                case measure => rw [HG2.out]; omega
                case rel => exact ⟨3, t, rfl, by omega, rfl, rfl, by omega, hid (by rw [HTT.out]; exact HNj.out (by decide)), HB.out⟩
              · have t1 : (((px : Nat) : Int) + -1 == ((qx : Nat) : Int)) = false := by simp only [beq_eq_false_iff_ne]; omega
                have t2 : (((py : Nat) : Int) == ((qy : Nat) : Int)) = false := by simp only [beq_eq_false_iff_ne]; omega
                clear h1 h2
                go_wp2_with fail
                refine (l1East_c _ (by omega) _).mono ?_
                rintro e w2 ⟨rfl, hb2⟩
                have HB := hid (HB.out.trans (hb2.mono HB.out.size))
                clear hb2
                go_wp2_with (go_at_call 13; refine (l1North_c _ (by omega) _).mono ?_; rintro e w3 ⟨rfl, hb3⟩; have HB := hid (HB.out.trans (hb3.mono HB.out.size)); clear hb3)
                go_roundg (5 - 3)
                case measure => rw [HG2.out]; omega
                case rel => exact ⟨3, t, rfl, by omega, rfl, rfl, by omega, hid (by rw [HTT.out]; exact HNj.out (by decide)), HB.out⟩
              · have t1 : (((px : Nat) : Int) + -1 == ((qx : Nat) : Int)) = true := by simp only [beq_iff_eq]; omega
                have t2 : (((py : Nat) : Int) == ((qy : Nat) : Int)) = true := by simp only [beq_iff_eq]; omega
                clear h1 h2
                go_wp2_with fail
                refine (l1East_c _ (by omega) _).mono ?_
                rintro e w2 ⟨rfl, hb2⟩
                have HB := hid (HB.out.trans (hb2.mono HB.out.size))
                clear hb2
                go_wp2_with (go_at_call 13; refine (l1North_c _ (by omega) _).mono ?_; rintro e w3 ⟨rfl, hb3⟩; have HB := hid (HB.out.trans (hb3.mono HB.out.size)); clear hb3)
                go_roundg (5 - 3)
                case measure => rw [HG2.out]; omega
                case rel => exact ⟨3, _, rfl, by omega, rfl, rfl, letter_size hts (by decide), hid (by rw [HTT.out]; exact HTj.out (by simp)), HB.out⟩
              · have t1 : (((px : Nat) : Int) + -1 == ((qx : Nat) : Int)) = false := by simp only [beq_eq_false_iff_ne]; omega
                have t2 : (((py : Nat) : Int) == ((qy : Nat) : Int)) = false := by simp only [beq_eq_false_iff_ne]; omega
                clear h1 h2
                go_wp2_with fail
                refine (l1East_c _ (by omega) _).mono ?_
                rintro e w2 ⟨rfl, hb2⟩
                have HB := hid (HB.out.trans (hb2.mono HB.out.size))
                clear hb2
                go_wp2_with (go_at_call 13; refine (l1North_c _ (by omega) _).mono ?_; rintro e w3 ⟨rfl, hb3⟩; have HB := hid (HB.out.trans (hb3.mono HB.out.size)); clear hb3)
                go_roundg (5 - 3)
                case measure => rw [HG2.out]; omega
                case rel => exact ⟨3, t, rfl, by omega, rfl, rfl, by omega, hid (by rw [HTT.out]; exact HNj.out (by decide)), HB.out⟩
            · rcases hC with ⟨rfl, h1, h2⟩ | ⟨rfl, h1, h2⟩ | ⟨rfl, h1, h2⟩ | ⟨rfl, h1, h2⟩
              · have t1 : (((px : Nat) : Int) == ((qx : Nat) : Int)) = false := by simp only [beq_eq_false_iff_ne]; omega
                have t2 : (((py : Nat) : Int) + -1 == ((qy : Nat) : Int)) = false := by simp only [beq_eq_false_iff_ne]; omega
                clear h1 h2
                go_wp2_with fail
                refine (l1East_c _ (by omega) _).mono ?_
                rintro e w2 ⟨rfl, hb2⟩
                have HB := hid (HB.out.trans (hb2.mono HB.out.size))
                clear hb2
                go_wp2_with (go_at_call 13; refine (l1North_c _ (by omega) _).mono ?_; rintro e w3 ⟨rfl, hb3⟩; have HB := hid (HB.out.trans (hb3.mono HB.out.size)); clear hb3)
                go_roundg (5 - 4)
                case measure => rw [HG2.out]; omega
                case rel => exact ⟨4, t, rfl, by omega, rfl, rfl, by omega, hid (by rw [HTT.out]; exact HNj.out (by decide)), HB.out⟩
              · have t1 : (((px : Nat) : Int) == ((qx : Nat) : Int)) = true := by simp only [beq_iff_eq]; omega
                have t2 : (((py : Nat) : Int) + -1 == ((qy : Nat) : Int)) = false := by simp only [beq_eq_false_iff_ne]; omega
                clear h1 h2
                go_wp2_with fail
                refine (l1East_c _ (by omega) _).mono ?_
                rintro e w2 ⟨rfl, hb2⟩
                have HB := hid (HB.out.trans (hb2.mono HB.out.size))
                clear hb2
                go_wp2_with (go_at_call 13; refine (l1North_c _ (by omega) _).mono ?_; rintro e w3 ⟨rfl, hb3⟩; have HB := hid (HB.out.trans (hb3.mono HB.out.size)); clear hb3)
                go_roundg (5 - 4)
                case measure => rw [HG2.out]; omega
                case rel => exact ⟨4, t, rfl, by omega, rfl, rfl, by omega, hid (by rw [HTT.out]; exact HNj.out (by decide)), HB.out⟩
              · have t1 : (((px : Nat) : Int) == ((qx : Nat) : Int)) = false := by simp only [beq_eq_false_iff_ne]; omega
                have t2 : (((py : Nat) : Int) + -1 == ((qy : Nat) : Int)) = false := by simp only [beq_eq_false_iff_ne]; omega
                clear h1 h2
                go_wp2_with fail
                refine (l1East_c _ (by omega) _).mono ?_
                rintro e w2 ⟨rfl, hb2⟩
                have HB := hid (HB.out.trans (hb2.mono HB.out.size))
                clear hb2
                go_wp2_with (go_at_call 13; refine (l1North_c _ (by omega) _).mono ?_; rintro e w3 ⟨rfl, hb3⟩; have HB := hid (HB.out.trans (hb3.mono HB.out.size)); clear hb3)
                go_roundg (5 - 4)
                case measure => rw [HG2.out]; omega
                case rel => exact ⟨4, t, rfl, by omega, rfl, rfl, by omega, hid (by rw [HTT.out]; exact HNj.out (by decide)), HB.out⟩
              · have t1 : (((px : Nat) : Int) == ((qx : Nat) : Int)) = true := by simp only [beq_iff_eq]; omega
                have t2 : (((py : Nat) : Int) + -1 == ((qy : Nat) : Int)) = true := by simp only [beq_iff_eq]; omega
                clear h1 h2
                go_wp2_with fail
                refine (l1East_c _ (by omega) _).mono ?_
                rintro e w2 ⟨rfl, hb2⟩
                have HB := hid (HB.out.trans (hb2.mono HB.out.size))
                clear hb2
                go_wp2_with (go_at_call 13; refine (l1North_c _ (by omega) _).mono ?_; rintro e w3 ⟨rfl, hb3⟩; have HB := hid (HB.out.trans (hb3.mono HB.out.size)); clear hb3)
                go_roundg (5 - 4)
                case measure => rw [HG2.out]; omega
                case rel => exact ⟨4, _, rfl, by omega, rfl, rfl, letter_size hts (by decide), hid (by rw [HTT.out]; exact HTj.out (by simp)), HB.out⟩
          · obtain rfl : j = 4 := by omega
            have hD : D < 4 := by unfold CvStep at hC; omega
            have hM1 : m + 1 + 1 ≤ 4 ^ k := by
              have h5 : (m : Int) + 1 < ((4 ^ k : Nat) : Int) := by rw [← HP.out.1]; exact hlt2
              omega
            have HM1 := hid hM1
            have HF : Hid (t = strOf (cvW k (m + 1))) := by rw [HTT.out]; exact HSe.out hD
            have hlen : Hid (t.size ≤ 1100) := by rw [HF.out, strOf_size, cvW_length]; exact hid (by omega)
            clear hM1 HT HN hC hD
            go_wp2_with fail
            go_roundg (2000 - (m + 1))
            case measure => rw [HG.out]; omega
            case rel => exact ⟨m + 1, t, rfl, HM1.out, by go_num, by rw [HQ.out], by rw [HQ.out], rfl, hlen.out, HF, HB.out⟩
      · have hge : ¬ ((m : Int) + 1 < 2 ^ (2 * k)) := by rw [HP.out.1]; omega
        have hm2 : m = 4 ^ k - 1 := by have := HM.out; omega
        have HM2 := hid hm2
        clear hm2 hlt
        go_wp2_with fail
        go_ret
        exact ⟨ret_str (by rw [HR.out, HS.out, ← HM2.out]), HB.out⟩
end Go.Proofs.YtbklcalpojkjfaaDoor
