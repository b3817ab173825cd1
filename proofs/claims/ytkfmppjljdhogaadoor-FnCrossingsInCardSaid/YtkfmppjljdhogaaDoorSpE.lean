/- Contracts: WithinOk, AllWindings, MostWinding of the reference; BothOf of both packages. -/
import Derived.Test.YtkfmppjljdhogaaDoorSpD
namespace Go.Proofs.YtkfmppjljdhogaaDoor
open Go.RowKit TW

/-- All windings, for whatever text; the most; both walks. -/
def awR (l : List UInt8) : Int := box2 (wdR l) (-20) 41
def moR (l : List UInt8) : Int := if clL l then mostOf (wdL l) else -1
theorem wdR_le (l : List UInt8) (x y : Int) : -40 ≤ wdR l x y ∧ wdR l x y ≤ 40 := by
  unfold wdR
  split
  · rename_i h
    have h1 := wkL_len (clL_wk h)
    have h2 := wdS_le l x y l.length
    have e : wdS l x y l.length = wdL l x y := rfl
    rw [e] at h2
    omega
  · omega
theorem sum_le {f : Nat → Int} {b : Int} (h : ∀ k, -b ≤ f k ∧ f k ≤ b) : ∀ n : Nat, -(b * n) ≤ sumTo f n ∧ sumTo f n ≤ b * n
  | 0 => by simp [sumTo]
  | n + 1 => by
    have ih := sum_le h n
    have := h n
    rw [sumTo_succ, Int.natCast_succ, Int.mul_add]
    omega
/-- Row i of the box, and its first entries. -/
def awRow (l : List UInt8) (i : Nat) : Int := sumTo (fun j => wdR l (-20 + (i : Int)) (-20 + (j : Int))) 41
def awPart (l : List UInt8) (i j : Nat) : Int := sumTo (awRow l) i + sumTo (fun j => wdR l (-20 + (i : Int)) (-20 + (j : Int))) j
theorem awPart_zero (l : List UInt8) (i : Nat) : awPart l i 0 = sumTo (awRow l) i := by unfold awPart; show sumTo (awRow l) i + 0 = _; omega
theorem awPart_succ (l : List UInt8) (i j : Nat) : awPart l i (j + 1) = awPart l i j + wdR l (-20 + (i : Int)) (-20 + (j : Int)) := by unfold awPart; rw [sumTo_succ]; omega
theorem awPart_full (l : List UInt8) (i : Nat) : awPart l i 41 = sumTo (awRow l) (i + 1) := by unfold awPart; rw [sumTo_succ]; rfl
theorem awR_all (l : List UInt8) : sumTo (awRow l) 41 = awR l := rfl
theorem awRow_le (l : List UInt8) (i : Nat) : -1640 ≤ awRow l i ∧ awRow l i ≤ 1640 := by
  have := sum_le (f := fun k => wdR l (-20 + (i : Int)) (-20 + (k : Int))) (b := 40) (fun k => wdR_le l _ _) 41
  unfold awRow
  omega
theorem awPart_le (l : List UInt8) {i j : Nat} (hi : i ≤ 41) (hj : j ≤ 41) : -100000 ≤ awPart l i j ∧ awPart l i j ≤ 100000 := by
  have h1 := sum_le (f := fun k => wdR l (-20 + (i : Int)) (-20 + (k : Int))) (b := 40) (fun k => wdR_le l _ _) j
  have h2 := sum_le (f := awRow l) (b := 1640) (fun k => awRow_le l k) i
  unfold awPart
  omega

set_option maxHeartbeats 4000000 in
theorem specAllWindings_c (s : ByteArray) (hs : s.size ≤ maxLen) (w : World) :
    Calls Tryd.prog 23 #[.string s] w fun e w' => e = .returned (.tuple #[.int .i64 (awR (lets s)), .bool (clL (lets s))]) ∧ Below w.heap.size w w' := by
  have HSZ := hid hs
  clear hs
  go_enter Tryd.func23, Tryd.ntmps23
  go_wp2_with fail
  go_loopg [4, 5] 100 (fun gg a x wr => ∃ i : Nat, gg = 100 - i ∧ i ≤ 41 ∧ x = .int .i64 (-20 + (i : Int)) ∧ a = .int .i64 (sumTo (awRow (lets s)) i) ∧ Below w.heap.size w wr)
  case atStart => exact ⟨0, rfl, by omega, rfl, rfl, Below.refl _ _⟩
  case round =>
    obtain ⟨i, hgg, hi, rfl, rfl, hB⟩ := hrel
    have HGG := hid hgg
    have HB := hid hB
    clear hgg hB
    by_cases hlt : i < 41
    · have HF := hid (awPart_full (lets s) i)
      have HZ := hid (awPart_zero (lets s) i)
      rw [← HZ.out]
      have h20 : -20 + (i : Int) ≤ 20 := by omega
      go_wp2_with fail
      go_loopg [4, 6] 100 (fun gg a y wx => ∃ j : Nat, gg = 100 - j ∧ j ≤ 41 ∧ y = .int .i64 (-20 + (j : Int)) ∧ a = .int .i64 (awPart (lets s) i j) ∧ Below w.heap.size w wx)
      case atStart => exact ⟨0, rfl, by omega, rfl, rfl, HB.out⟩
      case round =>
        clear HB
        obtain ⟨j, hgg2, hj, rfl, rfl, hB⟩ := hrel
        have HGG2 := hid hgg2
        have HB := hid hB
        clear hgg2 hB
        by_cases hlt2 : j < 41
        · have HS := hid (awPart_succ (lets s) i j)
          have h20' : -20 + (j : Int) ≤ 20 := by omega
          obtain ⟨b1, b2⟩ := awPart_le (lets s) (i := i) (j := j) (by omega) (by omega)
          obtain ⟨b3, b4⟩ := wdR_le (lets s) (-20 + (i : Int)) (-20 + (j : Int))
          have HC := hid (fun w => specWindingOf_c s HSZ.out (-20 + (i : Int)) (-20 + (j : Int)) w)
          generalize awPart (lets s) i j = A at *
          generalize wdR (lets s) (-20 + (i : Int)) (-20 + (j : Int)) = D at *
          go_wp2_with fail
          refine (HC.out _).mono ?_
          rintro e w2 ⟨rfl, hb2⟩
          have HB2 := hid (HB.out.trans (hb2.mono HB.out.size))
          clear hb2
          go_wp2_with fail
          go_roundg (100 - (j + 1))
          case measure => rw [HGG2.out]; omega
          case rel => exact ⟨j + 1, rfl, by omega, vint (by omega), vint (by rw [HS.out]), HB2.out⟩
        · obtain rfl : j = 41 := by omega
          rw [HF.out]
          clear hlt2
          go_wp2_with fail
          go_roundg (100 - (i + 1))
          case measure => rw [HGG.out]; omega
          case rel => exact ⟨i + 1, rfl, by omega, vint (by omega), rfl, HB.out⟩
    · obtain rfl : i = 41 := by omega
      rw [awR_all]
      clear hlt
      go_wp2_with fail
      refine (specClosedOk_c s HSZ.out _).mono ?_
      rintro e w2 ⟨rfl, hb2⟩
      have HB2 := hid (HB.out.trans (hb2.mono HB.out.size))
      clear hb2
      go_wp2_with fail
      go_ret2
      exact ⟨rfl, HB2.out⟩
/-- The most so far: of the first rows, and of the first entries of the next one. -/
def moRow (l : List UInt8) (i : Nat) : Nat → Int := mostRow (wdL l) i
def moPart (l : List UInt8) (i j : Nat) : Int := max (mxTo (fun i => mxTo (moRow l i) 41) i) (mxTo (moRow l i) j)
theorem moPart_zero (l : List UInt8) (i : Nat) : moPart l i 0 = mxTo (fun i => mxTo (moRow l i) 41) i := by
  unfold moPart
  have := mxTo_nonneg (fun i => mxTo (moRow l i) 41) i
  show max _ 0 = _
  omega
theorem moPart_succ (l : List UInt8) (i j : Nat) : moPart l i (j + 1) = max (moPart l i j) (absI (wdL l (-20 + (i : Int)) (-20 + (j : Int)))) := by
  unfold moPart
  show max _ (max (mxTo (moRow l i) j) (moRow l i j)) = _
  show max _ (max (mxTo (moRow l i) j) (absI (wdL l (-20 + (i : Int)) (-20 + (j : Int))))) = _
  omega
theorem moPart_full (l : List UInt8) (i : Nat) : moPart l i 41 = mxTo (fun i => mxTo (moRow l i) 41) (i + 1) := rfl
theorem mo_all {l : List UInt8} (h : clL l = true) : mxTo (fun i => mxTo (moRow l i) 41) 41 = moR l := by unfold moR; rw [if_pos h]; rfl
theorem moR_no {l : List UInt8} (h : clL l = false) : moR l = -1 := by unfold moR; rw [h]; rfl
theorem mxTo_le {f : Nat → Int} {b : Int} (hb : 0 ≤ b) (h : ∀ k, f k ≤ b) : ∀ n : Nat, mxTo f n ≤ b
  | 0 => hb
  | n + 1 => by
    have ih := mxTo_le hb h n
    have := h n
    show max (mxTo f n) (f n) ≤ b
    omega
theorem moPart_le {l : List UInt8} (h : clL l = true) (i j : Nat) : 0 ≤ moPart l i j ∧ moPart l i j ≤ 40 := by
  have hr : ∀ i k, moRow l i k ≤ 40 := fun i k => by
    have := wd_four h (-20 + (i : Int)) (-20 + (k : Int))
    have := wkL_len (clL_wk h)
    show absI _ ≤ 40
    omega
  have h1 := mxTo_le (b := 40) (by omega) (hr i) j
  have h2 := mxTo_le (f := fun i => mxTo (moRow l i) 41) (b := 40) (by omega) (fun i => mxTo_le (by omega) (hr i) 41) i
  have h3 := mxTo_nonneg (moRow l i) j
  unfold moPart
  omega

set_option maxHeartbeats 4000000 in
theorem specMostWinding_c (s : ByteArray) (hs : s.size ≤ maxLen) (w : World) :
    Calls Tryd.prog 11 #[.string s] w fun e w' => e = .returned (.int .i64 (moR (lets s))) ∧ Below w.heap.size w w' := by
  have HSZ := hid hs
  clear hs
  have HCl := hid (fun w => specClosedOk_c s HSZ.out w)
  cases hcl : clL (lets s) with
  | false =>
    have HR := hid (moR_no hcl)
    rw [hcl] at HCl
    clear hcl
    go_enter Tryd.func11, Tryd.ntmps11
    go_wp2_with fail
    refine wp_loop_rounds 1 ?_
    rw [rounds_succ]
    go_wp2_with fail
    refine (HCl.out _).mono ?_
    rintro e w1 ⟨rfl, hb1⟩
    have HB1 := hid hb1
    clear hb1
    go_wp2_with fail
    refine (HCl.out _).mono ?_
    rintro e w2 ⟨rfl, hb2⟩
    have HB2 := hid (HB1.out.trans (hb2.mono HB1.out.size))
    clear hb2
    go_wp2_with fail
    go_ret
    exact ⟨ret_int HR.out.symm, HB2.out⟩
  | true =>
    have HR := hid (mo_all hcl)
    have HC := hid hcl
    rw [hcl] at HCl
    clear hcl
    go_enter Tryd.func11, Tryd.ntmps11
    go_wp2_with fail
    go_loopg [3, 4] 100 (fun gg a x wr => ∃ i : Nat, gg = 100 - i ∧ i ≤ 41 ∧ x = .int .i64 (-20 + (i : Int)) ∧ a = .int .i64 (mxTo (fun i => mxTo (moRow (lets s) i) 41) i) ∧ Below w.heap.size w wr)
    case atStart => exact ⟨0, rfl, by omega, rfl, rfl, Below.refl _ _⟩
    case round =>
      obtain ⟨i, hgg, hi, rfl, rfl, hB⟩ := hrel
      have HGG := hid hgg
      have HB := hid hB
      clear hgg hB
      by_cases hlt : i < 41
      · have HF := hid (moPart_full (lets s) i)
        have HZ := hid (moPart_zero (lets s) i)
        rw [← HZ.out]
        have h20 : -20 + (i : Int) ≤ 20 := by omega
        go_wp2_with fail
        refine (HCl.out _).mono ?_
        rintro e w1 ⟨rfl, hb1⟩
        have HB := hid (HB.out.trans (hb1.mono HB.out.size))
        clear hb1
        go_wp2_with fail
        go_loopg [3, 5] 100 (fun gg a y wx => ∃ j : Nat, gg = 100 - j ∧ j ≤ 41 ∧ y = .int .i64 (-20 + (j : Int)) ∧ a = .int .i64 (moPart (lets s) i j) ∧ Below w.heap.size w wx)
        case atStart => exact ⟨0, rfl, by omega, rfl, rfl, HB.out⟩
        case round =>
          clear HB
          obtain ⟨j, hgg2, hj, rfl, rfl, hB⟩ := hrel
          have HGG2 := hid hgg2
          have HB := hid hB
          clear hgg2 hB
          by_cases hlt2 : j < 41
          · have HS := hid (moPart_succ (lets s) i j)
            have h20' : -20 + (j : Int) ≤ 20 := by omega
            obtain ⟨b1, b2⟩ := moPart_le HC.out i j
            obtain ⟨b3, b4⟩ := wdR_le (lets s) (-20 + (i : Int)) (-20 + (j : Int))
            have HC2 := hid (fun w => specWindingOf_c s HSZ.out (-20 + (i : Int)) (-20 + (j : Int)) w)
            rw [wdR_yes HC.out] at b3 b4 HC2
            generalize moPart (lets s) i j = A at *
            generalize wdL (lets s) (-20 + (i : Int)) (-20 + (j : Int)) = D at *
            by_cases d1 : D < -D
            · have HD : Hid (absI D = -D) := hid (by unfold absI; omega)
              rw [HD.out] at HS
              by_cases d2 : A < -D
              · have HS : Hid (moPart (lets s) i (j + 1) = -D) := hid (by rw [HS.out]; omega)
                go_wp2_with fail
                refine (HC2.out _).mono ?_
                rintro e w2 ⟨rfl, hb2⟩
                have HB2 := hid (HB.out.trans (hb2.mono HB.out.size))
                clear hb2
                go_wp2_with fail
                go_roundg (100 - (j + 1))
                case measure => rw [HGG2.out]; omega
                case rel => exact ⟨j + 1, rfl, by omega, vint (by omega), vint (by rw [HS.out]), HB2.out⟩
              · have HS : Hid (moPart (lets s) i (j + 1) = A) := hid (by rw [HS.out]; omega)
                go_wp2_with fail
                refine (HC2.out _).mono ?_
                rintro e w2 ⟨rfl, hb2⟩
                have HB2 := hid (HB.out.trans (hb2.mono HB.out.size))
                clear hb2
                go_wp2_with fail
                go_roundg (100 - (j + 1))
                case measure => rw [HGG2.out]; omega
                case rel => exact ⟨j + 1, rfl, by omega, vint (by omega), vint (by rw [HS.out]), HB2.out⟩
            · have HD : Hid (absI D = D) := hid (by unfold absI; omega)
              rw [HD.out] at HS
              by_cases d2 : A < D
              · have HS : Hid (moPart (lets s) i (j + 1) = D) := hid (by rw [HS.out]; omega)
                go_wp2_with fail
                refine (HC2.out _).mono ?_
                rintro e w2 ⟨rfl, hb2⟩
                have HB2 := hid (HB.out.trans (hb2.mono HB.out.size))
                clear hb2
                go_wp2_with fail
                go_roundg (100 - (j + 1))
                case measure => rw [HGG2.out]; omega
                case rel => exact ⟨j + 1, rfl, by omega, vint (by omega), vint (by rw [HS.out]), HB2.out⟩
              · have HS : Hid (moPart (lets s) i (j + 1) = A) := hid (by rw [HS.out]; omega)
                go_wp2_with fail
                refine (HC2.out _).mono ?_
                rintro e w2 ⟨rfl, hb2⟩
                have HB2 := hid (HB.out.trans (hb2.mono HB.out.size))
                clear hb2
                go_wp2_with fail
                go_roundg (100 - (j + 1))
                case measure => rw [HGG2.out]; omega
                case rel => exact ⟨j + 1, rfl, by omega, vint (by omega), vint (by rw [HS.out]), HB2.out⟩
          · obtain rfl : j = 41 := by omega
            rw [HF.out]
            clear hlt2
            go_wp2_with fail
            go_roundg (100 - (i + 1))
            case measure => rw [HGG.out]; omega
            case rel => exact ⟨i + 1, rfl, by omega, vint (by omega), rfl, HB.out⟩
      · obtain rfl : i = 41 := by omega
        rw [HR.out]
        clear hlt
        go_wp2_with fail
        refine (HCl.out _).mono ?_
        rintro e w2 ⟨rfl, hb2⟩
        have HB2 := hid (HB.out.trans (hb2.mono HB.out.size))
        clear hb2
        go_wp2_with fail
        go_ret
        exact ⟨rfl, HB2.out⟩

/-- Two walks, one behind the other. -/
def btB (a b : ByteArray) : Bool := clL (lets a) && (clL (lets b) && decide (a.size + b.size ≤ 40))
def btS (a b : ByteArray) : ByteArray := if btB a b then a ++ b else ⟨#[]⟩
theorem bt_no {a b : ByteArray} (h : btB a b = false) : btS a b = ⟨#[]⟩ := by unfold btS; rw [h]; rfl
theorem bt_yes {a b : ByteArray} (h : btB a b = true) : btS a b = a ++ b := by unfold btS; rw [if_pos h]

end Go.Proofs.YtkfmppjljdhogaaDoor
