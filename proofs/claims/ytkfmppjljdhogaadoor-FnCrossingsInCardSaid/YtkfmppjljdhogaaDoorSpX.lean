/- Contract: CrossingsIn of the reference. -/
import Derived.Test.YtkfmppjljdhogaaDoorSpS
namespace Go.Proofs.YtkfmppjljdhogaaDoor
open Go.RowKit TW

/-- What CrossingsIn comes to. -/
noncomputable def crR (l : List UInt8) : Int := if smL l then crL l else -1
theorem crR_no {l : List UInt8} (h : smL l = false) : crR l = -1 := by unfold crR; rw [h]; rfl
theorem crR_yes {l : List UInt8} (h : smL l = true) : crR l = crL l := by unfold crR; rw [if_pos h]
def crCol (l : List UInt8) (i : Nat) : Int := sumTo (fun j => if crB l (-20 + (i : Int)) (-20 + (j : Int)) then 1 else 0) 41
def crPart (l : List UInt8) (i j : Nat) : Int := sumTo (crCol l) i + sumTo (fun j => if crB l (-20 + (i : Int)) (-20 + (j : Int)) then 1 else 0) j
theorem crPart_zero (l : List UInt8) (i : Nat) : crPart l i 0 = sumTo (crCol l) i := by unfold crPart; show sumTo (crCol l) i + 0 = _; omega
theorem crPart_succ (l : List UInt8) (i j : Nat) : crPart l i (j + 1) = crPart l i j + if crB l (-20 + (i : Int)) (-20 + (j : Int)) then 1 else 0 := by unfold crPart; rw [sumTo_succ]; omega
theorem crPart_full (l : List UInt8) (i : Nat) : crPart l i 41 = sumTo (crCol l) (i + 1) := by unfold crPart; rw [sumTo_succ]; rfl
theorem cr_all (l : List UInt8) : sumTo (crCol l) 41 = crL l := rfl
theorem crPart_le (l : List UInt8) {i j : Nat} (hi : i ≤ 41) (hj : j ≤ 41) : 0 ≤ crPart l i j ∧ crPart l i j ≤ 100000 := by
  have h0 : ∀ (i k : Nat), 0 ≤ (if crB l (-20 + (i : Int)) (-20 + (k : Int)) then (1 : Int) else 0) ∧ (if crB l (-20 + (i : Int)) (-20 + (k : Int)) then (1 : Int) else 0) ≤ 1 := fun i k => by split <;> omega
  have h1 := sum_01 (h0 i) j
  have h2 := sum_01 (f := crCol l) (b := 41) (fun k => by have := sum_01 (h0 k) 41; unfold crCol; omega) i
  unfold crPart
  omega
/-- Whether one of the first k places is this. -/
def onS (l : List UInt8) (a b : Int) (k : Nat) : Bool := (List.range k).any (fun k => decide (PX l k = a) && decide (PY l k = b))
theorem onS_succ (l : List UInt8) (a b : Int) (k : Nat) : onS l a b (k + 1) = (onS l a b k || (decide (PX l k = a) && decide (PY l k = b))) := by
  unfold onS; rw [List.range_succ, List.any_append]; simp
theorem onS_all (s : ByteArray) (a b : Int) : onS (lets s) a b (s.size + 1) = onL (lets s) a b := by unfold onS onL; rw [lets_len]

set_option maxRecDepth 100000 in
set_option maxHeartbeats 8000000 in
theorem specCrossingsIn_c (s : ByteArray) (hs : s.size ≤ maxLen) (w : World) :
    Calls Tryd.prog 20 #[.string s] w fun e w' => e = .returned (.int .i64 (crR (lets s))) ∧ Below w.heap.size w w' := by
  have HSZ := hid hs
  go_enter Tryd.func20, Tryd.ntmps20
  go_wp2_with fail
  refine (specSimpleOk_c s hs _).mono ?_
  rintro e w1 ⟨rfl, hb1⟩
  have HB1 := hid hb1
  clear hb1 hs
  cases hcl : smL (lets s) with
  | false =>
    have HR := hid (crR_no hcl)
    clear hcl
    go_wp2_with fail
    go_ret
    exact ⟨ret_int HR.out.symm, HB1.out⟩
  | true =>
    obtain ⟨h40, hall⟩ := cl_facts (smL_cl hcl)
    have HA := hid hall
    have HW := hid (clL_wk (smL_cl hcl))
    have HR : Hid (sumTo (crCol (lets s)) 41 = crR (lets s)) := hid (by rw [cr_all, crR_yes hcl])
    clear hcl hall
    go_wp2_with fail
    refine (specPlacesOf_c s HSZ.out _).mono ?_
    rintro e w2 ⟨v, rfl, hb2, hp⟩
    have HB := hid (HB1.out.trans (hb2.mono HB1.out.size))
    have hv := hp.1 HW.out
    rw [lets_len] at hv
    obtain ⟨g, cap, rfl, hle, hm, hg, hrows⟩ := hv
    have HV := hid hrows
    clear hb2 hrows hp hg HB1
    obtain ⟨n, hn⟩ : ∃ n : Nat, n = s.size + 1 := ⟨_, rfl⟩
    have HN := hid hn
    rw [← hn] at hle HV ⊢
    have hn41 : n ≤ 41 := by omega
    clear hn
    go_wp2_with fail
    go_loopg [3, 5] 100 (fun gg a x wr => ∃ (i : Nat) (X : Int), gg = 100 - i ∧ i ≤ 41 ∧ Hid (X = -20 + (i : Int)) ∧ -20 ≤ X ∧ X ≤ 21 ∧ x = .int .i64 X ∧ a = .int .i64 (sumTo (crCol (lets s)) i) ∧ w2 = wr)
    case atStart => exact ⟨0, -20, rfl, by omega, hid rfl, by omega, by omega, rfl, rfl, rfl⟩
    case round =>
      obtain ⟨i, X, hgg, hi, HX, x0, x1, rfl, rfl, rfl⟩ := hrel
      have HGG := hid hgg
      have HI := hid hi
      clear hgg hi
      by_cases hlt : X ≤ 20
      · have HF := hid (crPart_full (lets s) i)
        have HZ := hid (crPart_zero (lets s) i)
        rw [← HZ.out]
        go_wp2_with fail
        go_loopg [3, 6] 100 (fun gg a y wx => ∃ (j : Nat) (Y : Int), gg = 100 - j ∧ j ≤ 41 ∧ Hid (Y = -20 + (j : Int)) ∧ -20 ≤ Y ∧ Y ≤ 21 ∧ y = .int .i64 Y ∧ a = .int .i64 (crPart (lets s) i j) ∧ w2 = wx)
        case atStart => exact ⟨0, -20, rfl, by omega, hid rfl, by omega, by omega, rfl, rfl, rfl⟩
        case round =>
          obtain ⟨j, Y, hgg2, hj, HY, y0, y1, rfl, rfl, rfl⟩ := hrel
          have HGG2 := hid hgg2
          have HJ := hid hj
          clear hgg2 hj
          by_cases hlt2 : Y ≤ 20
          · have HS : Hid (crPart (lets s) i (j + 1) = crPart (lets s) i j + if crB (lets s) X Y then 1 else 0) := hid (by rw [crPart_succ, HX.out, HY.out])
            have hbnd := crPart_le (lets s) (i := i) (j := j) HI.out HJ.out
            obtain ⟨b1, b2⟩ := hbnd
            generalize crPart (lets s) i j = A at *
            go_wp2_with fail
            go_loopg [7, 8] 100 (fun gg o kk wy => ∃ k : Nat, gg = 100 - k ∧ k ≤ n ∧ kk = .int .i64 k ∧ o = .bool (onS (lets s) X Y k) ∧ w2 = wy)
            case atStart => exact ⟨0, rfl, Nat.zero_le _, rfl, rfl, rfl⟩
            case round =>
              obtain ⟨k, hgg3, hk, rfl, rfl, rfl⟩ := hrel
              have HGG3 := hid hgg3
              clear hgg3
              by_cases hlt3 : k < n
              · obtain ⟨r, hr, q0, q1, q2⟩ := HV.out k hlt3
                have HO := hid (onS_succ (lets s) X Y k)
                have k0 : (0 : Int) ≤ (k : Int) := Int.natCast_nonneg _
                have k1 : (k : Int) < (n : Int) := by omega
                generalize PX (lets s) k = p at *
                generalize PY (lets s) k = q at *
                generalize onS (lets s) X Y k = o at *
                cases o with
                | true =>
                  go_wp2_with fail
                  go_roundg (100 - (k + 1))
                  case measure => rw [HGG3.out]; omega
                  case rel => exact ⟨k + 1, rfl, by omega, by go_num, by rw [HO.out]; rfl, rfl⟩
                | false =>
                  by_cases hpx : p = X
                  · subst hpx
                    by_cases hqy : q = Y
                    · subst hqy
                      go_wp2_with fail
                      go_roundg (100 - (k + 1))
                      case measure => rw [HGG3.out]; omega
                      case rel => exact ⟨k + 1, rfl, by omega, by go_num, by rw [HO.out]; simp, rfl⟩
                    · have t2 : (q == Y) = false := by rw [beq_eq_false_iff_ne]; exact hqy
                      have HQ := hid hqy
                      clear hqy
                      go_wp2_with fail
                      go_roundg (100 - (k + 1))
                      case measure => rw [HGG3.out]; omega
                      case rel => exact ⟨k + 1, rfl, by omega, by go_num, by rw [HO.out, decide_eq_false HQ.out]; simp, rfl⟩
                  · have t1 : (p == X) = false := by rw [beq_eq_false_iff_ne]; exact hpx
                    have HP := hid hpx
                    clear hpx
                    go_wp2_with fail
                    go_roundg (100 - (k + 1))
                    case measure => rw [HGG3.out]; omega
                    case rel => exact ⟨k + 1, rfl, by omega, by go_num, by rw [HO.out, decide_eq_false HP.out]; simp, rfl⟩
              · have HON : Hid (onS (lets s) X Y k = onL (lets s) X Y) := hid (by rw [← onS_all]; congr 1; have := HN.out; omega)
                have hlt3' : ¬ (k : Int) < (n : Int) := by omega
                rw [HON.out]
                have HC1 := hid (fun w => l5Within_c s h40 HA.out X Y w)
                have HC2 := hid (fun w => l5Within_c s h40 HA.out (X - 1) Y w)
                have HC3 := hid (fun w => l5Within_c s h40 HA.out X (Y - 1) w)
                have HC4 := hid (fun w => l5Within_c s h40 HA.out (X - 1) (Y - 1) w)
                have HS2 : Hid (crPart (lets s) i (j + 1) = A + if (!onL (lets s) X Y && inL (lets s) X Y && inL (lets s) (X - 1) Y && inL (lets s) X (Y - 1) && inL (lets s) (X - 1) (Y - 1)) then 1 else 0) := hid (by rw [HS.out]; rfl)
                clear HON HS hlt3 hk
                generalize onL (lets s) X Y = o at *
                generalize inL (lets s) X Y = c1 at *
                generalize inL (lets s) (X - 1) Y = c2 at *
                generalize inL (lets s) X (Y - 1) = c3 at *
                generalize inL (lets s) (X - 1) (Y - 1) = c4 at *
                cases o with
                | true =>
                  go_wp2_with fail
                  go_roundg (100 - (j + 1))
                  case measure => rw [HGG2.out]; have := HJ.out; omega
                  case rel => exact ⟨j + 1, Y + 1, rfl, by have := HJ.out; have := HY.out; omega, hid (by rw [HY.out]; omega), by omega, by omega, rfl, vint (by rw [HS2.out]; simp), rfl⟩
                | false =>
                  cases c1 with
                  | false =>
                    go_wp2_with (go_at_call 38; first | (with_reducible refine (HC1.out _).mono ?_; rintro e w6 ⟨rfl, rfl⟩) | (with_reducible refine (HC2.out _).mono ?_; rintro e w6 ⟨rfl, rfl⟩) | (with_reducible refine (HC3.out _).mono ?_; rintro e w6 ⟨rfl, rfl⟩) | (with_reducible refine (HC4.out _).mono ?_; rintro e w6 ⟨rfl, rfl⟩))
                    go_roundg (100 - (j + 1))
                    case measure => rw [HGG2.out]; have := HJ.out; omega
                    case rel => exact ⟨j + 1, Y + 1, rfl, by have := HJ.out; have := HY.out; omega, hid (by rw [HY.out]; omega), by omega, by omega, rfl, vint (by rw [HS2.out]; simp), rfl⟩
                  | true =>
                    cases c2 with
                    | false =>
                      go_wp2_with (go_at_call 38; first | (with_reducible refine (HC1.out _).mono ?_; rintro e w6 ⟨rfl, rfl⟩) | (with_reducible refine (HC2.out _).mono ?_; rintro e w6 ⟨rfl, rfl⟩) | (with_reducible refine (HC3.out _).mono ?_; rintro e w6 ⟨rfl, rfl⟩) | (with_reducible refine (HC4.out _).mono ?_; rintro e w6 ⟨rfl, rfl⟩))
                      go_roundg (100 - (j + 1))
                      case measure => rw [HGG2.out]; have := HJ.out; omega
                      case rel => exact ⟨j + 1, Y + 1, rfl, by have := HJ.out; have := HY.out; omega, hid (by rw [HY.out]; omega), by omega, by omega, rfl, vint (by rw [HS2.out]; simp), rfl⟩
                    | true =>
                      cases c3 with
                      | false =>
                        go_wp2_with (go_at_call 38; first | (with_reducible refine (HC1.out _).mono ?_; rintro e w6 ⟨rfl, rfl⟩) | (with_reducible refine (HC2.out _).mono ?_; rintro e w6 ⟨rfl, rfl⟩) | (with_reducible refine (HC3.out _).mono ?_; rintro e w6 ⟨rfl, rfl⟩) | (with_reducible refine (HC4.out _).mono ?_; rintro e w6 ⟨rfl, rfl⟩))
                        go_roundg (100 - (j + 1))
                        case measure => rw [HGG2.out]; have := HJ.out; omega
                        case rel => exact ⟨j + 1, Y + 1, rfl, by have := HJ.out; have := HY.out; omega, hid (by rw [HY.out]; omega), by omega, by omega, rfl, vint (by rw [HS2.out]; simp), rfl⟩
                      | true =>
                        cases c4 with
                        | false =>
                          go_wp2_with (go_at_call 38; first | (with_reducible refine (HC1.out _).mono ?_; rintro e w6 ⟨rfl, rfl⟩) | (with_reducible refine (HC2.out _).mono ?_; rintro e w6 ⟨rfl, rfl⟩) | (with_reducible refine (HC3.out _).mono ?_; rintro e w6 ⟨rfl, rfl⟩) | (with_reducible refine (HC4.out _).mono ?_; rintro e w6 ⟨rfl, rfl⟩))
                          go_roundg (100 - (j + 1))
                          case measure => rw [HGG2.out]; have := HJ.out; omega
                          case rel => exact ⟨j + 1, Y + 1, rfl, by have := HJ.out; have := HY.out; omega, hid (by rw [HY.out]; omega), by omega, by omega, rfl, vint (by rw [HS2.out]; simp), rfl⟩
                        | true =>
                          go_wp2_with (go_at_call 38; first | (with_reducible refine (HC1.out _).mono ?_; rintro e w6 ⟨rfl, rfl⟩) | (with_reducible refine (HC2.out _).mono ?_; rintro e w6 ⟨rfl, rfl⟩) | (with_reducible refine (HC3.out _).mono ?_; rintro e w6 ⟨rfl, rfl⟩) | (with_reducible refine (HC4.out _).mono ?_; rintro e w6 ⟨rfl, rfl⟩))
                          go_roundg (100 - (j + 1))
                          case measure => rw [HGG2.out]; have := HJ.out; omega
                          case rel => exact ⟨j + 1, Y + 1, rfl, by have := HJ.out; have := HY.out; omega, hid (by rw [HY.out]; omega), by omega, by omega, rfl, vint (by rw [HS2.out]; simp), rfl⟩
          · have HJe : Hid (j = 41) := hid (by have := HY.out; have := HJ.out; omega)
            rw [HJe.out, HF.out]
            go_wp2_with fail
            go_roundg (100 - (i + 1))
            case measure => rw [HGG.out]; have := HI.out; omega
            case rel => exact ⟨i + 1, X + 1, rfl, by have := HI.out; have := HX.out; omega, hid (by rw [HX.out]; omega), by omega, by omega, rfl, rfl, rfl⟩
      · have HIe : Hid (i = 41) := hid (by have := HX.out; have := HI.out; omega)
        rw [HIe.out, HR.out]
        go_wp2_with fail
        go_ret
        exact ⟨rfl, HB.out⟩
end Go.Proofs.YtkfmppjljdhogaaDoor
