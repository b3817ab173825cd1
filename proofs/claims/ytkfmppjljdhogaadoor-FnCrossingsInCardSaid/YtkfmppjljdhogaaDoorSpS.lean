/- Contracts: l5Within and SquaresIn of the reference. -/
import Derived.Test.YtkfmppjljdhogaaDoorSpD
import Derived.Test.YtkfmppjljdhogaaDoorWkS
namespace Go.Proofs.YtkfmppjljdhogaaDoor
open Go.RowKit TW

set_option maxHeartbeats 4000000 in
theorem l5Within_c (s : ByteArray) (h40 : s.size ≤ 40) (hall : (lets s).all isStep = true) (x y : Int) (w : World) :
    Calls Tryd.prog 38 #[.string s, .int .i64 x, .int .i64 y] w fun e w' => e = .returned (.bool (inL (lets s) x y)) ∧ w = w' := by
  have HA := hid hall
  have HR : Hid ((cnS (lets s) x y s.size % 2 == 1) = inL (lets s) x y) := hid (by unfold inL cnS cnL; rw [lets_len, Bool.eq_iff_iff]; simp)
  clear hall
  go_enter Tryd.func38, Tryd.ntmps38
  go_wp2_with fail
  go_loopg [7, 8, 9, 10] 100 (fun gg a p q i wr => ∃ k : Nat, gg = 100 - k ∧ k ≤ s.size ∧ i = .int .i64 k ∧ a = .int .i64 (cnS (lets s) x y k) ∧ p = .int .i64 (PX (lets s) k) ∧ q = .int .i64 (PY (lets s) k) ∧ wr = w)
  case atStart => exact ⟨0, rfl, Nat.zero_le _, rfl, rfl, rfl, rfl, rfl⟩
  case round =>
    obtain ⟨k, hgg, hk, rfl, rfl, rfl, rfl, rfl⟩ := hrel
    have HGG := hid hgg
    clear hgg
    by_cases hlt : k < s.size
    · obtain ⟨ba1, ba2⟩ := cnS_le (lets s) x y k
      obtain ⟨bx1, bx2⟩ := PX_le (lets s) k
      obtain ⟨by1, by2⟩ := PY_le (lets s) k
      have HS := hid (cnS_succ (lets s) x y k)
      have HX := hid (PX_succ (lets s) k)
      have HY := hid (PY_succ (lets s) k)
      rw [at0_lets hlt] at HS HX HY
      rw [HY.out] at HS
      have HS := hid HS.out
      have hst : isStep s[k] = true := by
        have h1 := HA.out
        rw [List.all_eq_true] at h1
        exact h1 _ (by have := take_snoc s k hlt; exact List.mem_of_mem_take (i := k + 1) (by rw [this]; simp))
      have i1 : (k : Int) < (s.size : Int) := by omega
      have i2 : (0 : Int) ≤ (k : Int) := Int.natCast_nonneg _
      generalize cnS (lets s) x y k = A at *
      generalize PX (lets s) k = p at *
      generalize PY (lets s) k = q at *
      rcases step_is hst with h | h | h | h
      all_goals
        obtain ⟨h1, h2, h3, h4, h5⟩ := h
        rw [h1] at HX
        rw [h2] at HS HY
        have HS := hid HS.out
        have HX := hid HX.out
        have HY := hid HY.out
        clear h1 h2 hst
      · have HS : Hid (cnS (lets s) x y (k + 1) = A) := hid (by rw [HS.out]; split <;> omega)
        go_wp2_with fail
        go_roundg (100 - (k + 1))
        case measure => rw [HGG.out]; omega
        case rel => exact ⟨k + 1, rfl, by omega, by go_num, vint (by rw [HS.out]), vint (by rw [HX.out]), vint (by rw [HY.out]; omega), rfl⟩
      · by_cases c1 : q = y
        · have t1 : (q == y) = true := by simpa using c1
          by_cases c2 : x < p
          · have HS : Hid (cnS (lets s) x y (k + 1) = A + 1) := hid (by rw [HS.out, if_pos (by omega)])
            clear c1
            go_wp2_with fail
            go_roundg (100 - (k + 1))
            case measure => rw [HGG.out]; omega
            case rel => exact ⟨k + 1, rfl, by omega, by go_num, vint (by rw [HS.out]), vint (by rw [HX.out]; omega), vint (by rw [HY.out]), rfl⟩
          · have HS : Hid (cnS (lets s) x y (k + 1) = A) := hid (by rw [HS.out, if_neg (by omega)]; omega)
            clear c1
            go_wp2_with fail
            go_roundg (100 - (k + 1))
            case measure => rw [HGG.out]; omega
            case rel => exact ⟨k + 1, rfl, by omega, by go_num, vint (by rw [HS.out]), vint (by rw [HX.out]; omega), vint (by rw [HY.out]), rfl⟩
        · have t1 : (q == y) = false := by simpa using c1
          have HS : Hid (cnS (lets s) x y (k + 1) = A) := hid (by rw [HS.out, if_neg (by omega)]; omega)
          clear c1
          go_wp2_with fail
          go_roundg (100 - (k + 1))
          case measure => rw [HGG.out]; omega
          case rel => exact ⟨k + 1, rfl, by omega, by go_num, vint (by rw [HS.out]), vint (by rw [HX.out]; omega), vint (by rw [HY.out]), rfl⟩
      · have HS : Hid (cnS (lets s) x y (k + 1) = A) := hid (by rw [HS.out]; split <;> omega)
        go_wp2_with fail
        go_roundg (100 - (k + 1))
        case measure => rw [HGG.out]; omega
        case rel => exact ⟨k + 1, rfl, by omega, by go_num, vint (by rw [HS.out]), vint (by rw [HX.out]; omega), vint (by rw [HY.out]; omega), rfl⟩
      · by_cases c1 : q - 1 = y
        · have t1 : (q - 1 == y) = true := by simpa using c1
          by_cases c2 : x < p
          · have HS : Hid (cnS (lets s) x y (k + 1) = A + 1) := hid (by rw [HS.out, if_pos (by omega)])
            clear c1
            go_wp2_with fail
            go_roundg (100 - (k + 1))
            case measure => rw [HGG.out]; omega
            case rel => exact ⟨k + 1, rfl, by omega, by go_num, vint (by rw [HS.out]), vint (by rw [HX.out]; omega), vint (by rw [HY.out]; omega), rfl⟩
          · have HS : Hid (cnS (lets s) x y (k + 1) = A) := hid (by rw [HS.out, if_neg (by omega)]; omega)
            clear c1
            go_wp2_with fail
            go_roundg (100 - (k + 1))
            case measure => rw [HGG.out]; omega
            case rel => exact ⟨k + 1, rfl, by omega, by go_num, vint (by rw [HS.out]), vint (by rw [HX.out]; omega), vint (by rw [HY.out]; omega), rfl⟩
        · have t1 : (q - 1 == y) = false := by simpa using c1
          have HS : Hid (cnS (lets s) x y (k + 1) = A) := hid (by rw [HS.out, if_neg (by omega)]; omega)
          clear c1
          go_wp2_with fail
          go_roundg (100 - (k + 1))
          case measure => rw [HGG.out]; omega
          case rel => exact ⟨k + 1, rfl, by omega, by go_num, vint (by rw [HS.out]), vint (by rw [HX.out]; omega), vint (by rw [HY.out]; omega), rfl⟩
    · have HK : Hid (k = s.size) := hid (by omega)
      have hlt' : ¬ (k : Int) < (s.size : Int) := by omega
      have HR2 : Hid ((cnS (lets s) x y k % 2 == 1) = inL (lets s) x y) := by rw [HK.out]; exact HR
      obtain ⟨ba1, ba2⟩ := cnS_le (lets s) x y k
      clear hlt hk
      generalize cnS (lets s) x y k = A at *
      go_wp2_with fail
      go_ret
      exact ⟨ret_bool HR2.out, rfl⟩

/-- The squares counted so far: of the first columns, and of the next one. -/
def sqCol (l : List UInt8) (i : Nat) : Int := sumTo (fun j => if inL l (-40 + (i : Int)) (-40 + (j : Int)) then 1 else 0) 81
def sqPart (l : List UInt8) (i j : Nat) : Int := sumTo (sqCol l) i + sumTo (fun j => if inL l (-40 + (i : Int)) (-40 + (j : Int)) then 1 else 0) j
theorem sqPart_zero (l : List UInt8) (i : Nat) : sqPart l i 0 = sumTo (sqCol l) i := by unfold sqPart; show sumTo (sqCol l) i + 0 = _; omega
theorem sqPart_succ (l : List UInt8) (i j : Nat) : sqPart l i (j + 1) = sqPart l i j + if inL l (-40 + (i : Int)) (-40 + (j : Int)) then 1 else 0 := by unfold sqPart; rw [sumTo_succ]; omega
theorem sqPart_full (l : List UInt8) (i : Nat) : sqPart l i 81 = sumTo (sqCol l) (i + 1) := by unfold sqPart; rw [sumTo_succ]; rfl
theorem sq_all (l : List UInt8) : sumTo (sqCol l) 81 = sqL l := rfl
theorem sum_01 {f : Nat → Int} {b : Int} (h : ∀ k, 0 ≤ f k ∧ f k ≤ b) : ∀ n : Nat, 0 ≤ sumTo f n ∧ sumTo f n ≤ b * n
  | 0 => by simp [sumTo]
  | n + 1 => by
    have ih := sum_01 h n
    have := h n
    rw [sumTo_succ, Int.natCast_succ, Int.mul_add]
    omega
theorem sqPart_le (l : List UInt8) {i j : Nat} (hi : i ≤ 81) (hj : j ≤ 81) : 0 ≤ sqPart l i j ∧ sqPart l i j ≤ 100000 := by
  have h0 : ∀ (i k : Nat), 0 ≤ (if inL l (-40 + (i : Int)) (-40 + (k : Int)) then (1 : Int) else 0) ∧ (if inL l (-40 + (i : Int)) (-40 + (k : Int)) then (1 : Int) else 0) ≤ 1 := fun i k => by split <;> omega
  have h1 := sum_01 (h0 i) j
  have h2 := sum_01 (f := sqCol l) (b := 81) (fun k => by have := sum_01 (h0 k) 81; unfold sqCol; omega) i
  unfold sqPart
  omega

set_option maxHeartbeats 4000000 in
theorem specSquaresIn_c (s : ByteArray) (hs : s.size ≤ maxLen) (w : World) :
    Calls Tryd.prog 16 #[.string s] w fun e w' => e = .returned (.int .i64 (sqR (lets s))) ∧ Below w.heap.size w w' := by
  go_enter Tryd.func16, Tryd.ntmps16
  go_wp2_with fail
  refine (specSimpleOk_c s hs _).mono ?_
  rintro e w1 ⟨rfl, hb1⟩
  have HB1 := hid hb1
  clear hb1 hs
  cases hcl : smL (lets s) with
  | false =>
    have HR := hid (sqR_no hcl)
    clear hcl
    go_wp2_with fail
    go_ret
    exact ⟨ret_int HR.out.symm, HB1.out⟩
  | true =>
    have HC := hid hcl
    obtain ⟨h40, hall⟩ := cl_facts (smL_cl hcl)
    have HA := hid hall
    have HR : Hid (sumTo (sqCol (lets s)) 81 = sqR (lets s)) := hid (by rw [sq_all, sqR_yes hcl])
    clear hcl hall
    go_wp2_with fail
    go_loopg [3, 4] 100 (fun gg a x wr => ∃ i : Nat, gg = 100 - i ∧ i ≤ 81 ∧ x = .int .i64 (-40 + (i : Int)) ∧ a = .int .i64 (sumTo (sqCol (lets s)) i) ∧ wr = w1)
    case atStart => exact ⟨0, rfl, by omega, rfl, rfl, rfl⟩
    case round =>
      obtain ⟨i, hgg, hi, rfl, rfl, rfl⟩ := hrel
      have HGG := hid hgg
      clear hgg
      by_cases hlt : i < 81
      · have HF := hid (sqPart_full (lets s) i)
        have HZ := hid (sqPart_zero (lets s) i)
        rw [← HZ.out]
        have h20 : -40 + (i : Int) ≤ 40 := by omega
        go_wp2_with fail
        go_loopg [3, 5] 100 (fun gg a y wx => ∃ j : Nat, gg = 100 - j ∧ j ≤ 81 ∧ y = .int .i64 (-40 + (j : Int)) ∧ a = .int .i64 (sqPart (lets s) i j) ∧ wx = wr)
        case atStart => exact ⟨0, rfl, by omega, rfl, rfl, rfl⟩
        case round =>
          obtain ⟨j, hgg2, hj, rfl, rfl, rfl⟩ := hrel
          have HGG2 := hid hgg2
          clear hgg2
          by_cases hlt2 : j < 81
          · have HS := hid (sqPart_succ (lets s) i j)
            have h20' : -40 + (j : Int) ≤ 40 := by omega
            obtain ⟨b1, b2⟩ := sqPart_le (lets s) (i := i) (j := j) (by omega) (by omega)
            have HC2 := hid (fun w => l5Within_c s h40 HA.out (-40 + (i : Int)) (-40 + (j : Int)) w)
            generalize sqPart (lets s) i j = A at *
            cases hin : inL (lets s) (-40 + (i : Int)) (-40 + (j : Int)) with
            | false =>
              rw [hin] at HS HC2
              have HS2 : Hid (sqPart (lets s) i (j + 1) = A) := hid (by rw [HS.out, if_neg (by decide)]; omega)
              clear HS
              clear hin
              go_wp2_with fail
              refine (HC2.out _).mono ?_
              rintro e w2 ⟨rfl, rfl⟩
              go_wp2_with fail
              go_roundg (100 - (j + 1))
              case measure => rw [HGG2.out]; omega
              case rel => exact ⟨j + 1, rfl, by omega, vint (by omega), vint (by rw [HS2.out]), rfl⟩
            | true =>
              rw [hin] at HS HC2
              have HS2 : Hid (sqPart (lets s) i (j + 1) = A + 1) := hid (by rw [HS.out, if_pos rfl])
              clear HS
              clear hin
              go_wp2_with fail
              refine (HC2.out _).mono ?_
              rintro e w2 ⟨rfl, rfl⟩
              go_wp2_with fail
              go_roundg (100 - (j + 1))
              case measure => rw [HGG2.out]; omega
              case rel => exact ⟨j + 1, rfl, by omega, vint (by omega), vint (by rw [HS2.out]), rfl⟩
          · obtain rfl : j = 81 := by omega
            rw [HF.out]
            clear hlt2
            go_wp2_with fail
            go_roundg (100 - (i + 1))
            case measure => rw [HGG.out]; omega
            case rel => exact ⟨i + 1, rfl, by omega, vint (by omega), rfl, rfl⟩
      · obtain rfl : i = 81 := by omega
        rw [HR.out]
        clear hlt
        go_wp2_with fail
        go_ret
        exact ⟨rfl, HB1.out⟩
end Go.Proofs.YtkfmppjljdhogaaDoor
