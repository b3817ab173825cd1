/- The walk of FnSpiralRounds. -/
import Derived.Test.YtbeacmealippmaaDoorSrP
import Derived.Test.YtbeacmealippmaaDoorDrawSp
namespace Go.Proofs.YtbeacmealippmaaDoor
open Go.RowKit TW

set_option maxHeartbeats 1000000 in
theorem walk_FnSpiralRounds (a : Option Addr) (len cap : Nat) (zs : List Int) (w : World) (h : IsRow .u8 w a len cap zs) (hd : Dirs w) :
    Calls Tryd.prog 5 #[.slice a len cap] w fun e w' => e = .returned (.bool true) ∧ Below w.heap.size w w' := by
  have HD := hid hd
  clear hd
  by_cases hbig : 1048576 < len
  · go_enter Tryd.func5, Tryd.ntmps5
    go_wp2
    go_ret
    exact ⟨rfl, Below.refl _ _⟩
  · go_enter Tryd.func5, Tryd.ntmps5
    go_wp2_with fail
    refine (drawSpiralRounds_c _ _ _ _ _ h).mono ?_
    rintro e w1 ⟨o, r, rfl, _, _, _, _, hb⟩
    have HB := hid hb
    clear hb h
    go_wp2_with fail
    refine (implSpiralRounds_c o r _ (HD.out.below HB.out)).mono ?_
    rintro e w2 ⟨rfl, hb⟩
    have HB := hid (HB.out.trans (hb.mono HB.out.size))
    clear hb
    go_wp2_with fail
    refine (specSpiralRounds_c o r _).mono ?_
    rintro e w3 ⟨rfl, hb⟩
    have HB := hid (HB.out.trans (hb.mono HB.out.size))
    clear hb
    cases hok : spOk o r with
    | false =>
      have e1 : srI o r = -1 := by unfold srI; rw [hok]; rfl
      have e2 : srB o r = false := by unfold srB; rw [hok]; rfl
      go_wp2_with (first
        | (go_at_call 13; refine (specSpiralOk_c _ _ _).mono ?_; rintro e w' ⟨rfl, rfl⟩)
        | (go_at_call 14; refine (alive_c _).mono ?_; rintro e w' ⟨rfl, rfl⟩))
      go_ret
      exact ⟨rfl, HB.out⟩
    | true =>
      obtain ⟨n, m, rfl, rfl, hn, hn9, hm⟩ := spOk_nat hok
      have ho := sr_other hok
      have hl := sr_left hn hn9
      have hno := fun h => sr_no (o := n) (r := m) h
      have h4 := wrap_pow n (by omega)
      have h5 := wrap_pow1 n (by omega)
      have hm' : (m : Int) < 2 ^ n := by have : ((2 ^ n : Nat) : Int) = 2 ^ n := by simp
                                         omega
      have hm5 : (2 : Int) ^ n ≤ 512 := by
        have : (2 : Nat) ^ n ≤ 2 ^ 9 := Nat.pow_le_pow_right (by omega) hn9
        have e : ((2 ^ n : Nat) : Int) = 2 ^ n := by simp
        omega
      have HO := hid ho
      have HLe := hid hl
      have HNo := hid hno
      clear hl hno ho
      go_wp2_with (go_at_call 13; refine (specSpiralOk_c _ _ _).mono ?_; rintro e w' ⟨rfl, rfl⟩)
      refine (implSpiralRounds_c n 0 _ (HD.out.below HB.out)).mono ?_
      rintro e w4 ⟨rfl, hb⟩
      have HB := hid (HB.out.trans (hb.mono HB.out.size))
      clear hb
      go_wp2_with fail
      refine (implSpiralRounds_c n (2 ^ n - 1 - m) _ (HD.out.below HB.out)).mono ?_
      rintro e w5 ⟨rfl, hb⟩
      have HB := hid (HB.out.trans (hb.mono HB.out.size))
      clear hb
      have q1 := HO.out.2.1
      have q2 := HO.out.2.2
      have q3 : srB n 0 = ((n : Int) % 4 != 0) := by rw [HLe.out]; rw [Bool.eq_iff_iff]; simp; omega
      cases hb : srB n m with
      | true =>
        go_wp2_with fail
        go_ret
        exact ⟨rfl, HB.out⟩
      | false =>
        have q4 := HNo.out hb
        go_wp2_with fail
        go_ret
        exact ⟨rfl, HB.out⟩
end Go.Proofs.YtbeacmealippmaaDoor
