/- The walk of FnCurveWalk. -/
import Derived.Test.YtbklcalpojkjfaaDoorCurve2
import Derived.Test.YtbklcalpojkjfaaDoorCurve3
import Derived.Test.YtbklcalpojkjfaaDoorWkD
import Derived.Test.YtbklcalpojkjfaaDoorDrawCv
import Derived.Test.YtbklcalpojkjfaaDoorAlive
import Derived.Test.YtbklcalpojkjfaaDoorCurveQ
import Derived.Deep.LoopGhost
namespace Go.Proofs.YtbklcalpojkjfaaDoor
open Go.RowKit TW

theorem str_nonempty {s : ByteArray} (h : 1 ≤ s.size) : s.toList.isEmpty = false := by
  rw [ByteArray.toList_eq]
  cases hl : s.data.toList with
  | nil =>
    exfalso
    have h1 : s.data.toList.length = 0 := by rw [hl]; rfl
    rw [Array.length_toList] at h1
    have h2 : s.data.size = s.size := rfl
    omega
  | cons _ _ => rfl

set_option maxHeartbeats 1000000 in
theorem walk_FnCurveWalk (a : Option Addr) (len cap : Nat) (zs : List Int) (w : World) (h : IsRow .u8 w a len cap zs) (hd : Dirs w) :
    Calls Tryd.prog 4 #[.slice a len cap] w fun e w' => e = .returned (.bool true) ∧ Below w.heap.size w w' := by
  have HD := hid hd
  clear hd
  by_cases hbig : 1048576 < len
  · go_enter Tryd.func4, Tryd.ntmps4
    go_wp2
    go_ret
    exact ⟨rfl, Below.refl _ _⟩
  · go_enter Tryd.func4, Tryd.ntmps4
    go_wp2_with fail
    refine (drawCurveWalk_c _ _ _ _ _ h).mono ?_
    rintro e w1 ⟨x, rfl, hx0, hx1, hb⟩
    have HB := hid hb
    clear hb h
    go_wp2_with fail
    refine (implCurve_c x _ (HD.out.below HB.out)).mono ?_
    rintro e w2 ⟨rfl, hb⟩
    have HB := hid (HB.out.trans (hb.mono HB.out.size))
    clear hb
    go_wp2_with fail
    refine (specCurve_c x _).mono ?_
    rintro e w3 ⟨rfl, hb⟩
    have HB := hid (HB.out.trans (hb.mono HB.out.size))
    clear hb
    by_cases hx : x ≤ 0 ∨ 5 < x
    · have e : curveS x = ⟨#[]⟩ := curve_none hx
      rw [e]
      rcases hx with hx | hx
      · go_wp2_with (go_at_call 8; refine (alive_c _).mono ?_; rintro e w' ⟨rfl, rfl⟩)
        go_ret
        exact ⟨rfl, HB.out⟩
      · go_wp2_with (go_at_call 8; refine (alive_c _).mono ?_; rintro e w' ⟨rfl, rfl⟩)
        go_ret
        exact ⟨rfl, HB.out⟩
    · obtain ⟨k, rfl, hk1, hk⟩ : ∃ k : Nat, x = k ∧ 1 ≤ k ∧ k < 6 := ⟨x.toNat, by omega, by omega, by omega⟩
      have HSz := hid (curve_size hk)
      have HSt := hid (curve_step hk)
      have HEn := hid (curve_ends k hk)
      have HCl := hid (curve_closed k)
      have hp1 : 4 ^ k ≤ 1024 := (pow4 k hk).2
      have hp4 : 4 ≤ 4 ^ k := by have := Nat.pow_le_pow_right (n := 4) (by omega) hk1; omega
      generalize curveS (k : Int) = S at *
      have hs1 : 1 ≤ S.size := by have := HSz.out; omega
      have hs2 : S.size ≤ 1024 := by have := HSz.out; omega
      clear hp1 hp4
      have hne : S ≠ ⟨#[]⟩ := fun e => by rw [e] at hs1; exact absurd hs1 (by decide)
      have hne' : S.toList.isEmpty = false := str_nonempty hs1
      obtain ⟨U, hU⟩ : ∃ U : Int, U = 2 ^ k := ⟨_, rfl⟩
      have hw : wrap64 (2 ^ k) = U := by rw [wrap_pow k (by omega), hU]
      have HU := hid hU
      clear hU
      go_wp2_with fail
      rw [hw]
      clear hne hne' hw
      go_loopg [6, 7, 8] 2000 (fun g x y i wr => ∃ m : Nat, g = 2000 - m ∧ m ≤ S.size ∧ i = .int .i64 m ∧ x = .int .i64 ((hil k m).1 : Nat) ∧ y = .int .i64 ((hil k m).2 : Nat) ∧ Below w.heap.size w wr)
      case atStart => exact ⟨0, rfl, Nat.zero_le _, rfl, by rw [HEn.out.1]; rfl, by rw [HEn.out.1]; rfl, HB.out⟩
      case round =>
        clear HB
        obtain ⟨m, hg, hm, rfl, rfl, rfl, hB⟩ := hrel
        have HG := hid hg
        have HB := hid hB
        clear hg hB
        by_cases hlt : m < S.size
        · have hlt' : (m : Int) < (S.size : Int) := by omega
          have hm1 : m + 1 ≤ 4 ^ k := by have := HSz.out; omega
          have h32 := (pow_le32 k hk).2.1
          have hb1 := hil_lt k hk m (by have := HSz.out; omega)
          have hb2 := hil_lt k hk (m + 1) (by have := HSz.out; omega)
          have b1 : (hil k m).1 ≤ 32 ∧ (hil k m).2 ≤ 32 ∧ (hil k (m + 1)).1 ≤ 32 ∧ (hil k (m + 1)).2 ≤ 32 := by omega
          obtain ⟨b1, b2, b3, b4⟩ := b1
          have HC := HSt.out m hlt
          clear hb1 hb2 h32 hm1
          generalize hil k m = p at *
          generalize hq : hil k (m + 1) = q at *
          have HQ := hid hq
          clear hq
          unfold LetStep at HC
          rcases HC with ⟨e, e1, e2⟩ | ⟨e, e1, e2⟩ | ⟨e, e1, e2⟩ | ⟨e, e1, e2⟩
          · have t1 : ((S[m].toNat : Int) == 101) = true := by rw [e]; rfl
            have HE1 := hid e1
            have HE2 := hid e2
            clear e e1 e2
            go_wp2_with fail
            go_roundg (2000 - (m + 1))
            case measure => rw [HG.out]; omega
            case rel => exact ⟨m + 1, rfl, by omega, by go_num, by rw [HQ.out, HE1.out]; rfl, by rw [HQ.out, HE2.out], HB.out⟩
          · have t1 : ((S[m].toNat : Int) == 101) = false := by rw [e]; rfl
            have t2 : ((S[m].toNat : Int) == 119) = false := by rw [e]; rfl
            have t3 : ((S[m].toNat : Int) == 110) = true := by rw [e]; rfl
            have HE1 := hid e1
            have HE2 := hid e2
            clear e e1 e2
            go_wp2_with fail
            go_roundg (2000 - (m + 1))
            case measure => rw [HG.out]; omega
            case rel => exact ⟨m + 1, rfl, by omega, by go_num, by rw [HQ.out, HE1.out], by rw [HQ.out, HE2.out]; rfl, HB.out⟩
          · have t1 : ((S[m].toNat : Int) == 101) = false := by rw [e]; rfl
            have t2 : ((S[m].toNat : Int) == 119) = true := by rw [e]; rfl
            have HE1 := hid e1
            have HE2 := hid e2
            clear e e1 e2
            go_wp2_with fail
            go_roundg (2000 - (m + 1))
            case measure => rw [HG.out]; omega
            case rel => exact ⟨m + 1, rfl, by omega, by go_num, by rw [HQ.out, HE1.out]; simp [Int.add_sub_cancel], by rw [HQ.out, HE2.out], HB.out⟩
          · have t1 : ((S[m].toNat : Int) == 101) = false := by rw [e]; rfl
            have t2 : ((S[m].toNat : Int) == 119) = false := by rw [e]; rfl
            have t3 : ((S[m].toNat : Int) == 110) = false := by rw [e]; rfl
            have HE1 := hid e1
            have HE2 := hid e2
            clear e e1 e2
            go_wp2_with fail
            go_roundg (2000 - (m + 1))
            case measure => rw [HG.out]; omega
            case rel => exact ⟨m + 1, rfl, by omega, by go_num, by rw [HQ.out, HE1.out], by rw [HQ.out, HE2.out]; simp [Int.add_sub_cancel], HB.out⟩
        · have hlt' : ¬ (m : Int) < (S.size : Int) := by omega
          have HN := hid (HEn.out.2)
          have hmm : m = 4 ^ k - 1 := by have := HSz.out; omega
          rw [← hmm] at HN
          clear hmm
          rw [HN.out]
          have hU1 : 1 ≤ U ∧ U ≤ 32 := by
            have h1 := (pow_le32 k hk).2.1
            have h2 : ((2 ^ k : Nat) : Int) = (2 : Int) ^ k := by simp
            have h3 := Nat.pow_pos (n := k) (show 0 < 2 by omega)
            rw [HU.out]; omega
          obtain ⟨hU1, hU2⟩ := hU1
          go_wp2_with fail
          clear HG
          go_loopg [9, 10] 100 (fun g s i wx => ∃ j : Nat, g = 100 - j ∧ (j : Int) + 1 ≤ U ∧ i = .int .i64 ((j : Int) + 1) ∧ s = .string (wn S j) ∧ Below w.heap.size w wx)
          case atStart => exact ⟨0, rfl, by omega, rfl, rfl, HB.out⟩
          case round =>
            clear HB
            obtain ⟨j, hg, hj, rfl, rfl, hB⟩ := hrel
            have HG := hid hg
            have HB := hid hB
            clear hg hB
            have hwz : (wn S j).size ≤ 1100 := by rw [wn_size]; omega
            by_cases hlt2 : (j : Int) + 1 < U
            · go_wp2_with fail
              go_roundg (100 - (j + 1))
              case measure => rw [HG.out]; omega
              case rel => exact ⟨j + 1, rfl, by omega, by go_num, rfl, HB.out⟩
            · have HJ : Hid ((j : Int) + 1 = U) := hid (by omega)
              clear hj HG
              go_upto_region 29 with fail
              have hE : ((2 ^ k - 1 : Nat) : Int) = U - 1 := by
                have h2 : ((2 ^ k : Nat) : Int) = (2 : Int) ^ k := by simp
                have h3 := Nat.pow_pos (n := k) (show 0 < 2 by omega)
                rw [HU.out]; omega
              rw [hE]
              obtain rfl | rfl | rfl | rfl | rfl : k = 1 ∨ k = 2 ∨ k = 3 ∨ k = 4 ∨ k = 5 := by omega
              · have hu : U = 2 := by rw [HU.out]; rfl
                have hq : ((S.size : Int) == 3) = true := by rw [HSz.out]; rfl
                subst hu
                have HS : Hid (smL (lets (wn S j ++ ⟨#[110]⟩)) = true ∧ (wn S j ++ (⟨#[110]⟩ : ByteArray)).size ≤ maxLen) := hid (by
                  obtain rfl : j = 1 := by have := HJ.out; omega
                  obtain ⟨c1, c2⟩ := HCl.out (by omega) (by omega)
                  refine ⟨smL_mk c1 (apartB c2), ?_⟩
                  rw [ByteArray.size_append]
                  have : (⟨#[110]⟩ : ByteArray).size = 1 := rfl
                  unfold maxLen
                  omega)
                clear hE
                go_wp2_with (go_at_call 9; refine (implSimpleOk_c _ HS.out.2 _ (HD.out.below HB.out)).mono ?_; rintro e w' ⟨rfl, hb⟩; rw [HS.out.1]; have HB := hid (HB.out.trans (hb.mono HB.out.size)); clear hb)
                refine (alive_c _).mono ?_
                rintro e w' ⟨rfl, rfl⟩
                go_wp2_with fail
                go_ret
                exact ⟨rfl, HB.out⟩
              · have hu : U = 4 := by rw [HU.out]; rfl
                have hq : ((S.size : Int) == 15) = true := by rw [HSz.out]; rfl
                subst hu
                have HS : Hid (smL (lets (wn S j ++ ⟨#[110]⟩)) = true ∧ (wn S j ++ (⟨#[110]⟩ : ByteArray)).size ≤ maxLen) := hid (by
                  obtain rfl : j = 3 := by have := HJ.out; omega
                  obtain ⟨c1, c2⟩ := HCl.out (by omega) (by omega)
                  refine ⟨smL_mk c1 (apartB c2), ?_⟩
                  rw [ByteArray.size_append]
                  have : (⟨#[110]⟩ : ByteArray).size = 1 := rfl
                  unfold maxLen
                  omega)
                clear hE
                go_wp2_with (go_at_call 9; refine (implSimpleOk_c _ HS.out.2 _ (HD.out.below HB.out)).mono ?_; rintro e w' ⟨rfl, hb⟩; rw [HS.out.1]; have HB := hid (HB.out.trans (hb.mono HB.out.size)); clear hb)
                refine (alive_c _).mono ?_
                rintro e w' ⟨rfl, rfl⟩
                go_wp2_with fail
                go_ret
                exact ⟨rfl, HB.out⟩
              · have hu : U = 8 := by rw [HU.out]; rfl
                have hq : ((S.size : Int) == 63) = true := by rw [HSz.out]; rfl
                subst hu
                clear hE
                go_wp2_with (go_at_call 8; refine (alive_c _).mono ?_; rintro e w' ⟨rfl, rfl⟩)
                go_ret
                exact ⟨rfl, HB.out⟩
              · have hu : U = 16 := by rw [HU.out]; rfl
                have hq : ((S.size : Int) == 255) = true := by rw [HSz.out]; rfl
                subst hu
                clear hE
                go_wp2_with (go_at_call 8; refine (alive_c _).mono ?_; rintro e w' ⟨rfl, rfl⟩)
                go_ret
                exact ⟨rfl, HB.out⟩
              · have hu : U = 32 := by rw [HU.out]; rfl
                have hq : ((S.size : Int) == 1023) = true := by rw [HSz.out]; rfl
                subst hu
                clear hE
                go_wp2_with (go_at_call 8; refine (alive_c _).mono ?_; rintro e w' ⟨rfl, rfl⟩)
                go_ret
                exact ⟨rfl, HB.out⟩
end Go.Proofs.YtbklcalpojkjfaaDoor
