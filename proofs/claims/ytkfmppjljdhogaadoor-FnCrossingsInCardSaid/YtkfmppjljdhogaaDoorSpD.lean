/- Contracts: AreaOf, WindingOf, l5Within, WithinOk of the reference. -/
import Derived.Test.YtkfmppjljdhogaaDoorSpC
import Derived.Test.YtkfmppjljdhogaaDoorWkF
namespace Go.Proofs.YtkfmppjljdhogaaDoor
open Go.RowKit TW

theorem vint {a b : Int} (h : a = b) : Value.int .i64 a = .int .i64 b := by rw [h]
/-- Partial sums over the first steps. -/
def arS (l : List UInt8) (k : Nat) : Int := sumTo (fun k => PX l k * dyB (at0 l k)) k
def wdS (l : List UInt8) (a b : Int) (k : Nat) : Int := sumTo (fun k => if min (PY l k) (PY l (k + 1)) = b ∧ a < PX l k then dyB (at0 l k) else 0) k
def cnS (l : List UInt8) (a b : Int) (k : Nat) : Int := sumTo (fun k => if min (PY l k) (PY l (k + 1)) = b ∧ a < PX l k ∧ dyB (at0 l k) ≠ 0 then 1 else 0) k
theorem arS_succ (l : List UInt8) (k : Nat) : arS l (k + 1) = arS l k + PX l k * dyB (at0 l k) := rfl
theorem wdS_succ (l : List UInt8) (a b : Int) (k : Nat) : wdS l a b (k + 1) = wdS l a b k + if min (PY l k) (PY l (k + 1)) = b ∧ a < PX l k then dyB (at0 l k) else 0 := rfl
theorem cnS_succ (l : List UInt8) (a b : Int) (k : Nat) : cnS l a b (k + 1) = cnS l a b k + if min (PY l k) (PY l (k + 1)) = b ∧ a < PX l k ∧ dyB (at0 l k) ≠ 0 then 1 else 0 := rfl
theorem wdS_le (l : List UInt8) (a b : Int) : ∀ k : Nat, -(k : Int) ≤ wdS l a b k ∧ wdS l a b k ≤ k
  | 0 => by unfold wdS; simp [sumTo]
  | k + 1 => by
    have ih := wdS_le l a b k
    have d := dyB_le (at0 l k)
    rw [wdS_succ]
    split <;> omega
theorem cnS_le (l : List UInt8) (a b : Int) : ∀ k : Nat, 0 ≤ cnS l a b k ∧ cnS l a b k ≤ k
  | 0 => by unfold cnS; simp [sumTo]
  | k + 1 => by
    have ih := cnS_le l a b k
    rw [cnS_succ]
    split <;> omega
theorem arS_le (l : List UInt8) : ∀ k : Nat, k ≤ 40 → -(40 * (k : Int)) ≤ arS l k ∧ arS l k ≤ 40 * k
  | 0, _ => by unfold arS; simp [sumTo]
  | k + 1, h => by
    have ih := arS_le l k (by omega)
    have d := dyB_le (at0 l k)
    have b := PX_le l k
    have m := prod_le (x := PX l k) (u := dyB (at0 l k)) (by omega) (by omega) d.1 d.2
    rw [arS_succ]
    omega
/-- What a step does, by its letter, with what the walk's tests read. -/
def StepIs (b : UInt8) (dx dy : Int) (e n s : Bool) : Prop := dxB b = dx ∧ dyB b = dy ∧ ((b.toNat : Int) == 101) = e ∧ ((b.toNat : Int) == 110) = n ∧ ((b.toNat : Int) == 115) = s
theorem step_is {b : UInt8} (h : isStep b = true) : StepIs b 1 0 true false false ∨ StepIs b 0 1 false true false ∨ StepIs b (-1) 0 false false false ∨ StepIs b 0 (-1) false false true := by
  unfold StepIs
  rcases isStep_cases h with rfl | rfl | rfl | rfl
  · exact .inl (by decide)
  · exact .inr (.inl (by decide))
  · exact .inr (.inr (.inl (by decide)))
  · exact .inr (.inr (.inr (by decide)))

set_option maxHeartbeats 4000000 in
theorem specWindingOf_c (s : ByteArray) (hs : s.size ≤ maxLen) (x y : Int) (w : World) :
    Calls Tryd.prog 32 #[.string s, .int .i64 x, .int .i64 y] w fun e w' => e = .returned (.int .i64 (wdR (lets s) x y)) ∧ Below w.heap.size w w' := by
  go_enter Tryd.func32, Tryd.ntmps32
  go_wp2_with fail
  refine (specClosedOk_c s hs _).mono ?_
  rintro e w1 ⟨rfl, hb1⟩
  have HB1 := hid hb1
  clear hb1 hs
  cases hcl : clL (lets s) with
  | false =>
    have HR := hid (wdR_no hcl x y)
    clear hcl
    go_wp2_with fail
    go_ret
    exact ⟨ret_int HR.out.symm, HB1.out⟩
  | true =>
    have HC := hid hcl
    obtain ⟨h40, hall⟩ := cl_facts hcl
    have HA := hid hall
    have HR : Hid (wdS (lets s) x y s.size = wdR (lets s) x y) := hid (by rw [wdR_yes HC.out]; unfold wdS wdL; rw [lets_len])
    clear hcl hall
    go_wp2_with fail
    go_loopg [7, 8, 9, 10] 100 (fun gg a p q i wr => ∃ k : Nat, gg = 100 - k ∧ k ≤ s.size ∧ i = .int .i64 k ∧ a = .int .i64 (wdS (lets s) x y k) ∧ p = .int .i64 (PX (lets s) k) ∧ q = .int .i64 (PY (lets s) k) ∧ wr = w1)
    case atStart => exact ⟨0, rfl, Nat.zero_le _, rfl, rfl, rfl, rfl, rfl⟩
    case round =>
      obtain ⟨k, hgg, hk, rfl, rfl, rfl, rfl, rfl⟩ := hrel
      have HGG := hid hgg
      clear hgg
      by_cases hlt : k < s.size
      · obtain ⟨ba1, ba2⟩ := wdS_le (lets s) x y k
        obtain ⟨bx1, bx2⟩ := PX_le (lets s) k
        obtain ⟨by1, by2⟩ := PY_le (lets s) k
        have HS := hid (wdS_succ (lets s) x y k)
        have HX := hid (PX_succ (lets s) k)
        have HY := hid (PY_succ (lets s) k)
        rw [at0_lets hlt] at HS HX HY
        rw [HY.out] at HS
        have HS := hid HS.out
        have hst : isStep s[k] = true := by
          have h1 := HA.out
          rw [List.all_eq_true] at h1
          exact h1 _ (by have := take_snoc s k hlt; exact List.mem_of_mem_take (i := k + 1) (by rw [this]; simp))
        have i1 : (k : Int) < (s.size : Int) := by omega
        have i2 : (0 : Int) ≤ (k : Int) := Int.natCast_nonneg _
        generalize wdS (lets s) x y k = A at *
        generalize PX (lets s) k = p at *
        generalize PY (lets s) k = q at *
        rcases step_is hst with h | h | h | h
        all_goals
          obtain ⟨h1, h2, h3, h4, h5⟩ := h
          rw [h1] at HX
          rw [h2] at HS HY
          have HS := hid HS.out
          have HX := hid HX.out
          have HY := hid HY.out
          clear h1 h2 hst
        · have HS : Hid (wdS (lets s) x y (k + 1) = A) := hid (by rw [HS.out]; split <;> omega)
          go_wp2_with fail
          go_roundg (100 - (k + 1))
          case measure => rw [HGG.out]; omega
          case rel => exact ⟨k + 1, rfl, by omega, by go_num, vint (by rw [HS.out]), vint (by rw [HX.out]), vint (by rw [HY.out]; omega), rfl⟩
        · by_cases c1 : q = y
          · have t1 : (q == y) = true := by simpa using c1
            by_cases c2 : x < p
            · have HS : Hid (wdS (lets s) x y (k + 1) = A + 1) := hid (by rw [HS.out, if_pos (by omega)])
              clear c1
              go_wp2_with fail
              go_roundg (100 - (k + 1))
              case measure => rw [HGG.out]; omega
              case rel => exact ⟨k + 1, rfl, by omega, by go_num, vint (by rw [HS.out]), vint (by rw [HX.out]; omega), vint (by rw [HY.out]), rfl⟩
            · have HS : Hid (wdS (lets s) x y (k + 1) = A) := hid (by rw [HS.out, if_neg (by omega)]; omega)
              clear c1
              go_wp2_with fail
              go_roundg (100 - (k + 1))
              case measure => rw [HGG.out]; omega
              case rel => exact ⟨k + 1, rfl, by omega, by go_num, vint (by rw [HS.out]), vint (by rw [HX.out]; omega), vint (by rw [HY.out]), rfl⟩
          · have t1 : (q == y) = false := by simpa using c1
            have HS : Hid (wdS (lets s) x y (k + 1) = A) := hid (by rw [HS.out, if_neg (by omega)]; omega)
            clear c1
            go_wp2_with fail
            go_roundg (100 - (k + 1))
            case measure => rw [HGG.out]; omega
            case rel => exact ⟨k + 1, rfl, by omega, by go_num, vint (by rw [HS.out]), vint (by rw [HX.out]; omega), vint (by rw [HY.out]), rfl⟩
        · have HS : Hid (wdS (lets s) x y (k + 1) = A) := hid (by rw [HS.out]; split <;> omega)
          go_wp2_with fail
          go_roundg (100 - (k + 1))
          case measure => rw [HGG.out]; omega
          case rel => exact ⟨k + 1, rfl, by omega, by go_num, vint (by rw [HS.out]), vint (by rw [HX.out]; omega), vint (by rw [HY.out]; omega), rfl⟩
        · by_cases c1 : q - 1 = y
          · have t1 : (q - 1 == y) = true := by simpa using c1
            by_cases c2 : x < p
            · have HS : Hid (wdS (lets s) x y (k + 1) = A - 1) := hid (by rw [HS.out, if_pos (by omega)]; omega)
              clear c1
              go_wp2_with fail
              go_roundg (100 - (k + 1))
              case measure => rw [HGG.out]; omega
              case rel => exact ⟨k + 1, rfl, by omega, by go_num, vint (by rw [HS.out]), vint (by rw [HX.out]; omega), vint (by rw [HY.out]; omega), rfl⟩
            · have HS : Hid (wdS (lets s) x y (k + 1) = A) := hid (by rw [HS.out, if_neg (by omega)]; omega)
              clear c1
              go_wp2_with fail
              go_roundg (100 - (k + 1))
              case measure => rw [HGG.out]; omega
              case rel => exact ⟨k + 1, rfl, by omega, by go_num, vint (by rw [HS.out]), vint (by rw [HX.out]; omega), vint (by rw [HY.out]; omega), rfl⟩
          · have t1 : (q - 1 == y) = false := by simpa using c1
            have HS : Hid (wdS (lets s) x y (k + 1) = A) := hid (by rw [HS.out, if_neg (by omega)]; omega)
            clear c1
            go_wp2_with fail
            go_roundg (100 - (k + 1))
            case measure => rw [HGG.out]; omega
            case rel => exact ⟨k + 1, rfl, by omega, by go_num, vint (by rw [HS.out]), vint (by rw [HX.out]; omega), vint (by rw [HY.out]; omega), rfl⟩
      · have HK : Hid (k = s.size) := hid (by omega)
        have hlt' : ¬ (k : Int) < (s.size : Int) := by omega
        clear hlt hk
        go_wp2_with fail
        go_ret
        exact ⟨ret_int (by rw [← HR.out, HK.out]), HB1.out⟩
end Go.Proofs.YtkfmppjljdhogaaDoor
