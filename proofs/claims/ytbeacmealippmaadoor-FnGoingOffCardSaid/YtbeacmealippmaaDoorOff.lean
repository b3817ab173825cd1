/- Contracts: GoingOff of both packages. -/
import Derived.Test.YtbeacmealippmaaDoorRounds2
namespace Go.Proofs.YtbeacmealippmaaDoor
open Go.RowKit TW

/-- How many of the first m spirals of an order go off. -/
def offTo (o : Nat) : Nat → Nat
  | 0 => 0
  | m + 1 => offTo o m + if srB o m then 0 else 1
theorem offTo_le (o : Nat) : ∀ m, offTo o m ≤ m
  | 0 => Nat.le_refl _
  | m + 1 => by have := offTo_le o m; unfold offTo; split <;> omega
def offI (o : Int) : Int := if (decide (1 ≤ o) && decide (o ≤ 9)) then (offTo o.toNat (2 ^ o.toNat) : Nat) else -1
theorem pow_512 : ∀ n : Nat, n < 10 → 2 ^ n ≤ 512 ∧ (2 : Int) ^ n = ((2 ^ n : Nat) : Int) := by decide +kernel

set_option maxHeartbeats 1000000 in
theorem specOff_c (o : Int) (w : World) :
    Calls Tryd.prog 10 #[.int .i64 o] w fun e w' => e = .returned (.int .i64 (offI o)) ∧ Below w.heap.size w w' := by
  cases hv : (decide (1 ≤ o) && decide (o ≤ 9)) with
  | false =>
    have HR : Hid (offI o = -1) := by unfold offI; rw [hv]; rfl
    go_enter Tryd.func10, Tryd.ntmps10
    go_wp2_with (go_at_call 27; refine (l1In_c _ _ _ _).mono ?_; rintro e w' ⟨rfl, rfl⟩)
    go_ret
    exact ⟨ret_int HR.out.symm, Below.refl _ _⟩
  | true =>
    have hv2 := hv
    simp only [Bool.and_eq_true, decide_eq_true_eq] at hv2
    obtain ⟨n, rfl⟩ := Int.eq_ofNat_of_zero_le (show 0 ≤ o by omega)
    have HR : Hid (offI n = (offTo n (2 ^ n) : Nat)) := by unfold offI; rw [hv]; rfl
    have hn9 : n ≤ 9 := by omega
    have hw := wrap_pow n (by omega)
    have HP := hid (pow_512 n (by omega))
    clear hv2
    go_enter Tryd.func10, Tryd.ntmps10
    go_wp2_with (go_at_call 27; refine (l1In_c _ _ _ _).mono ?_; rintro e w' ⟨rfl, rfl⟩)
    go_loopg [3, 4] 600 (fun g c i wr => ∃ m : Nat, g = 600 - m ∧ m ≤ 2 ^ n ∧ i = .int .i64 m ∧ c = .int .i64 (offTo n m : Nat) ∧ Below w.heap.size w wr)
    case atStart => exact ⟨0, rfl, Nat.zero_le _, rfl, rfl, Below.refl _ _⟩
    case round =>
      obtain ⟨m, hg, hm, rfl, rfl, hB⟩ := hrel
      have HG := hid hg
      have HB := hid hB
      have HM := hid hm
      have hle := offTo_le n m
      have hm5 : m ≤ 512 := Nat.le_trans hm HP.out.1
      clear hg hB hm
      by_cases hlt : m < 2 ^ n
      · have hlt2 : (m : Int) < 2 ^ n := by rw [HP.out.2]; omega
        have HL := hid hlt
        clear hlt
        have HS : Hid (offTo n (m + 1) = offTo n m + if srB n m then 0 else 1) := hid rfl
        go_wp2_with fail
        refine (specSpiralRounds_c n m _).mono ?_
        rintro e w1 ⟨rfl, hb⟩
        have HB := hid (HB.out.trans (hb.mono HB.out.size))
        clear hb
        cases hb : srB n m with
        | true =>
          have HS : Hid (offTo n (m + 1) = offTo n m) := by rw [HS.out, hb]; exact hid rfl
          clear hb
          go_wp2_with fail
          go_roundg (600 - (m + 1))
          case measure => rw [HG.out]; omega
          case rel => exact ⟨m + 1, rfl, HL.out, by go_num, by rw [HS.out], HB.out⟩
        | false =>
          have HS : Hid (offTo n (m + 1) = offTo n m + 1) := by rw [HS.out, hb]; exact hid rfl
          clear hb
          go_wp2_with fail
          go_roundg (600 - (m + 1))
          case measure => rw [HG.out]; omega
          case rel => exact ⟨m + 1, rfl, HL.out, by go_num, by rw [HS.out]; go_num, HB.out⟩
      · have hge : ¬ (m : Int) < 2 ^ n := by rw [HP.out.2]; omega
        have HM2 : Hid (m = 2 ^ n) := by have := HM.out; exact hid (by omega)
        clear hlt
        go_wp2_with fail
        go_ret
        exact ⟨ret_int (by rw [HR.out, ← HM2.out]), HB.out⟩

set_option maxHeartbeats 1000000 in
theorem implOff_c (o : Int) (w : World) (hd : Dirs w) :
    Calls Tryd.prog 11 #[.int .i64 o] w fun e w' => e = .returned (.int .i64 (offI o)) ∧ Below w.heap.size w w' := by
  have HD := hid hd
  clear hd
  cases hv : (decide (1 ≤ o) && decide (o ≤ 9)) with
  | false =>
    have HR : Hid (offI o = -1) := by unfold offI; rw [hv]; rfl
    go_enter Tryd.func11, Tryd.ntmps11
    go_wp2_with (go_at_call 28; refine (orderOk_c _ _).mono ?_; rintro e w' ⟨rfl, rfl⟩)
    go_ret
    exact ⟨ret_int HR.out.symm, Below.refl _ _⟩
  | true =>
    have hv2 := hv
    simp only [Bool.and_eq_true, decide_eq_true_eq] at hv2
    obtain ⟨n, rfl⟩ := Int.eq_ofNat_of_zero_le (show 0 ≤ o by omega)
    have HR : Hid (offI n = (offTo n (2 ^ n) : Nat)) := by unfold offI; rw [hv]; rfl
    have hn9 : n ≤ 9 := by omega
    have hw := wrap_pow n (by omega)
    have HP := hid (pow_512 n (by omega))
    clear hv2
    go_enter Tryd.func11, Tryd.ntmps11
    go_wp2_with (go_at_call 28; refine (orderOk_c _ _).mono ?_; rintro e w' ⟨rfl, rfl⟩)
    rw [hw]
    go_loopg [3, 12] 600 (fun g c i wr => ∃ m : Nat, g = 600 - m ∧ m ≤ 2 ^ n ∧ i = .int .i64 m ∧ c = .int .i64 (offTo n m : Nat) ∧ Below w.heap.size w wr)
    case atStart => exact ⟨0, rfl, Nat.zero_le _, rfl, rfl, Below.refl _ _⟩
    case round =>
      obtain ⟨m, hg, hm, rfl, rfl, hB⟩ := hrel
      have HG := hid hg
      have HB := hid hB
      have HM := hid hm
      have hle := offTo_le n m
      have hm5 : m ≤ 512 := Nat.le_trans hm HP.out.1
      clear hg hB hm
      by_cases hlt : m < 2 ^ n
      · have hlt2 : (m : Int) < 2 ^ n := by rw [HP.out.2]; omega
        have HL := hid hlt
        clear hlt
        have HS : Hid (offTo n (m + 1) = offTo n m + if srB n m then 0 else 1) := hid rfl
        go_wp2_with fail
        refine (implSpiralRounds_c n m _ (HD.out.below HB.out)).mono ?_
        rintro e w1 ⟨rfl, hb⟩
        have HB := hid (HB.out.trans (hb.mono HB.out.size))
        clear hb
        cases hb : srB n m with
        | true =>
          have HS : Hid (offTo n (m + 1) = offTo n m) := by rw [HS.out, hb]; exact hid rfl
          clear hb
          go_wp2_with fail
          go_roundg (600 - (m + 1))
          case measure => rw [HG.out]; omega
          case rel => exact ⟨m + 1, rfl, HL.out, by go_num, by rw [HS.out], HB.out⟩
        | false =>
          have HS : Hid (offTo n (m + 1) = offTo n m + 1) := by rw [HS.out, hb]; exact hid rfl
          clear hb
          go_wp2_with fail
          go_roundg (600 - (m + 1))
          case measure => rw [HG.out]; omega
          case rel => exact ⟨m + 1, rfl, HL.out, by go_num, by rw [HS.out]; go_num, HB.out⟩
      · have hge : ¬ (m : Int) < 2 ^ n := by rw [HP.out.2]; omega
        have HM2 : Hid (m = 2 ^ n) := by have := HM.out; exact hid (by omega)
        clear hlt
        go_wp2_with fail
        go_ret
        exact ⟨ret_int (by rw [HR.out, ← HM2.out]), HB.out⟩
end Go.Proofs.YtbeacmealippmaaDoor
