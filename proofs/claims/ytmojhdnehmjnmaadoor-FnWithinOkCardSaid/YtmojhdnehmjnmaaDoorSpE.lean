/- Contracts: WithinOk, AllWindings, MostWinding of the reference; BothOf of both packages. -/
import Derived.Test.YtmojhdnehmjnmaaDoorSpD
namespace Go.Proofs.YtmojhdnehmjnmaaDoor
open Go.RowKit TW

set_option maxHeartbeats 4000000 in
theorem specWithinOk_c (s : ByteArray) (hs : s.size ≤ maxLen) (x y : Int) (w : World) :
    Calls Tryd.prog 33 #[.string s, .int .i64 x, .int .i64 y] w fun e w' => e = .returned (.bool (wnR (lets s) x y)) ∧ Below w.heap.size w w' := by
  have HSZ := hid hs
  go_enter Tryd.func33, Tryd.ntmps33
  go_wp2_with fail
  refine (specSimpleOk_c s hs _).mono ?_
  rintro e w1 ⟨rfl, hb1⟩
  have HB1 := hid hb1
  clear hb1 hs
  cases hcl : smL (lets s) with
  | false =>
    have HR := hid (wnR_no hcl x y)
    clear hcl
    go_wp2_with fail
    go_ret
    exact ⟨ret_bool HR.out.symm, HB1.out⟩
  | true =>
    have HC := hid hcl
    obtain ⟨h40, hall⟩ := cl_facts (smL_cl hcl)
    have HA := hid hall
    clear hcl hall
    go_wp2_with fail
    refine (specPlacesOf_c s HSZ.out _).mono ?_
    rintro e w2 ⟨v, rfl, hb2, hp⟩
    have HB2 := hid (HB1.out.trans (hb2.mono HB1.out.size))
    have hv := hp.1 (clL_wk (smL_cl HC.out))
    rw [lets_len] at hv
    obtain ⟨g, cap, rfl, hle, hm, hg, hrows⟩ := hv
    have HV := hid hrows
    have HR : Hid ((cnS (lets s) x y s.size % 2 == 1) = wnR (lets s) x y) := hid (by rw [wnR_yes HC.out]; unfold inL cnS cnL; rw [lets_len, Bool.eq_iff_iff]; simp)
    clear hb2 HB1 hrows hp
    obtain ⟨n, hn⟩ : ∃ n : Nat, n = s.size + 1 := ⟨_, rfl⟩
    have HN := hid hn
    rw [← hn] at hle HV ⊢
    clear hn
    go_wp2_with fail
    go_loopg [7, 9] 100 (fun gg a i wr => ∃ (k d : Nat), gg = 100 - k ∧ k ≤ s.size ∧ i = .int .i64 k ∧ a = .int .i64 (cnS (lets s) x y k) ∧ wr = w2.drewN d)
    case atStart => exact ⟨0, 0, rfl, Nat.zero_le _, rfl, rfl, rfl⟩
    case round =>
      obtain ⟨k, d, hgg, hk, rfl, rfl, rfl⟩ := hrel
      have HGG := hid hgg
      clear hgg
      obtain ⟨ba1, ba2⟩ := cnS_le (lets s) x y k
      by_cases hlt : k < s.size
      · obtain ⟨r, hr, q0, q1, q2⟩ := HV.out k (by have := HN.out; omega)
        obtain ⟨r', hr', p0, p1, p2⟩ := HV.out (k + 1) (by have := HN.out; omega)
        have HS := hid (cnS_succ (lets s) x y k)
        have HY := hid (PY_succ (lets s) k)
        rw [at0_lets hlt] at HS HY
        have hst : isStep s[k] = true := by
          have h1 := HA.out
          rw [List.all_eq_true] at h1
          exact h1 _ (by have := take_snoc s k hlt; exact List.mem_of_mem_take (i := k + 1) (by rw [this]; simp))
        have i1 : (k : Int) < (n : Int) := by have := HN.out; omega
        have i2 : (0 : Int) ≤ (k : Int) := Int.natCast_nonneg _
        have i3 : (k : Int) + 1 < (n : Int) := by have := HN.out; omega
        have i4 : ((k : Int) + 1).toNat = k + 1 := by omega
        have i5 : IntKind.i64.wrap ((k : Int) + 1) = (k : Int) + 1 := IntWalk.i64_in _ (by omega)
        have i6 : (0 : Int) ≤ (k : Int) + 1 := by omega
        have i7 : (k : Int) < (s.size : Int) := by omega
        generalize cnS (lets s) x y k = A at *
        generalize PX (lets s) k = p at *
        generalize PY (lets s) k = q at *
        generalize PY (lets s) (k + 1) = q' at *
        have hdec : ∃ (a b c : Bool), ((s[k].toNat : Int) == 110) = a ∧ ((s[k].toNat : Int) == 115) = b ∧ (dyB s[k] ≠ 0 ↔ (a = true ∨ b = true)) := by
          rcases step_is hst with h | h | h | h
          all_goals
            obtain ⟨h1, h2, h3, h4, h5⟩ := h
            exact ⟨_, _, true, h4, h5, by rw [h2]; simp⟩
        obtain ⟨a, b, c, t1, t2, hiff⟩ := hdec
        have HI := hid hiff
        clear hiff hst HY c
        obtain ⟨M, hM⟩ : ∃ M, M = min q q' := ⟨_, rfl⟩
        have hlo : (if q' < q then q' else q) = M := by omega
        have hlo2 : min q q' = M := hM.symm
        have HS : Hid (cnS (lets s) x y (k + 1) = A + if M = y ∧ x < p ∧ dyB s[k] ≠ 0 then 1 else 0) := hid (by rw [HS.out, hM])
        clear hM
        cases a with
        | true =>
          by_cases h1 : M = y
          · have t3 : (M == y) = true := by simpa using h1
            by_cases h2 : x < p
            · have HS : Hid (cnS (lets s) x y (k + 1) = A + 1) := hid (by rw [HS.out, if_pos ⟨h1, h2, HI.out.2 (Or.inl rfl)⟩])
              clear h1
              go_wp2_with fail
              go_quiet (fail)
              go_wp2_with fail
              go_roundg (100 - (k + 1))
              case measure => rw [HGG.out]; omega
              case rel => exact ⟨k + 1, _, rfl, by omega, by go_num, vint (by rw [HS.out]), rfl⟩
            · have HS : Hid (cnS (lets s) x y (k + 1) = A) := hid (by rw [HS.out, if_neg (fun h => h2 h.2.1)]; omega)
              clear h1
              go_wp2_with fail
              go_quiet (fail)
              go_wp2_with fail
              go_roundg (100 - (k + 1))
              case measure => rw [HGG.out]; omega
              case rel => exact ⟨k + 1, _, rfl, by omega, by go_num, vint (by rw [HS.out]), rfl⟩
          · have t3 : (M == y) = false := by simpa using h1
            have HS : Hid (cnS (lets s) x y (k + 1) = A) := hid (by rw [HS.out, if_neg (fun h => h1 h.1)]; omega)
            clear h1
            go_wp2_with fail
            go_quiet (fail)
            go_wp2_with fail
            go_roundg (100 - (k + 1))
            case measure => rw [HGG.out]; omega
            case rel => exact ⟨k + 1, _, rfl, by omega, by go_num, vint (by rw [HS.out]), rfl⟩
        | false =>
          cases b with
          | true =>
            by_cases h1 : M = y
            · have t3 : (M == y) = true := by simpa using h1
              by_cases h2 : x < p
              · have HS : Hid (cnS (lets s) x y (k + 1) = A + 1) := hid (by rw [HS.out, if_pos ⟨h1, h2, HI.out.2 (Or.inr rfl)⟩])
                clear h1
                go_wp2_with fail
                go_quiet (fail)
                go_wp2_with fail
                go_roundg (100 - (k + 1))
                case measure => rw [HGG.out]; omega
                case rel => exact ⟨k + 1, _, rfl, by omega, by go_num, vint (by rw [HS.out]), rfl⟩
              · have HS : Hid (cnS (lets s) x y (k + 1) = A) := hid (by rw [HS.out, if_neg (fun h => h2 h.2.1)]; omega)
                clear h1
                go_wp2_with fail
                go_quiet (fail)
                go_wp2_with fail
                go_roundg (100 - (k + 1))
                case measure => rw [HGG.out]; omega
                case rel => exact ⟨k + 1, _, rfl, by omega, by go_num, vint (by rw [HS.out]), rfl⟩
            · have t3 : (M == y) = false := by simpa using h1
              have HS : Hid (cnS (lets s) x y (k + 1) = A) := hid (by rw [HS.out, if_neg (fun h => h1 h.1)]; omega)
              clear h1
              go_wp2_with fail
              go_quiet (fail)
              go_wp2_with fail
              go_roundg (100 - (k + 1))
              case measure => rw [HGG.out]; omega
              case rel => exact ⟨k + 1, _, rfl, by omega, by go_num, vint (by rw [HS.out]), rfl⟩
          | false =>
            have HS : Hid (cnS (lets s) x y (k + 1) = A) := hid (by rw [HS.out, if_neg (fun h => by rcases HI.out.1 h.2.2 with h | h <;> cases h)]; omega)
            go_wp2_with fail
            go_quiet (fail)
            go_wp2_with fail
            go_roundg (100 - (k + 1))
            case measure => rw [HGG.out]; omega
            case rel => exact ⟨k + 1, _, rfl, by omega, by go_num, vint (by rw [HS.out]), rfl⟩
      · have HK : Hid (k = s.size) := hid (by omega)
        have hlt' : ¬ (k : Int) < (s.size : Int) := by omega
        have HR2 : Hid ((cnS (lets s) x y k % 2 == 1) = wnR (lets s) x y) := by rw [HK.out]; exact HR
        clear hlt hk
        generalize cnS (lets s) x y k = A at *
        go_wp2_with fail
        go_ret
        exact ⟨ret_bool HR2.out, below_drewN HB2.out d⟩

/-- All windings, for whatever text; the most; both walks. -/
def awR (l : List UInt8) : Int := box2 (wdR l) (-20) 41
def moR (l : List UInt8) : Int := if clL l then mostOf (wdL l) else -1
theorem wdR_le (l : List UInt8) (x y : Int) : -40 ≤ wdR l x y ∧ wdR l x y ≤ 40 := by
  unfold wdR
  split
  · rename_i h
    have h1 := wkL_len (clL_wk h)
    have h2 := wdS_le l x y l.length
    have e : wdS l x y l.length = wdL l x y := rfl
    rw [e] at h2
    omega
  · omega
theorem sum_le {f : Nat → Int} {b : Int} (h : ∀ k, -b ≤ f k ∧ f k ≤ b) : ∀ n : Nat, -(b * n) ≤ sumTo f n ∧ sumTo f n ≤ b * n
  | 0 => by simp [sumTo]
  | n + 1 => by
    have ih := sum_le h n
    have := h n
    rw [sumTo_succ, Int.natCast_succ, Int.mul_add]
    omega
/-- Row i of the box, and its first entries. -/
def awRow (l : List UInt8) (i : Nat) : Int := sumTo (fun j => wdR l (-20 + (i : Int)) (-20 + (j : Int))) 41
def awPart (l : List UInt8) (i j : Nat) : Int := sumTo (awRow l) i + sumTo (fun j => wdR l (-20 + (i : Int)) (-20 + (j : Int))) j
theorem awPart_zero (l : List UInt8) (i : Nat) : awPart l i 0 = sumTo (awRow l) i := by unfold awPart; show sumTo (awRow l) i + 0 = _; omega
theorem awPart_succ (l : List UInt8) (i j : Nat) : awPart l i (j + 1) = awPart l i j + wdR l (-20 + (i : Int)) (-20 + (j : Int)) := by unfold awPart; rw [sumTo_succ]; omega
theorem awPart_full (l : List UInt8) (i : Nat) : awPart l i 41 = sumTo (awRow l) (i + 1) := by unfold awPart; rw [sumTo_succ]; rfl
theorem awR_all (l : List UInt8) : sumTo (awRow l) 41 = awR l := rfl
theorem awRow_le (l : List UInt8) (i : Nat) : -1640 ≤ awRow l i ∧ awRow l i ≤ 1640 := by
  have := sum_le (f := fun k => wdR l (-20 + (i : Int)) (-20 + (k : Int))) (b := 40) (fun k => wdR_le l _ _) 41
  unfold awRow
  omega
theorem awPart_le (l : List UInt8) {i j : Nat} (hi : i ≤ 41) (hj : j ≤ 41) : -100000 ≤ awPart l i j ∧ awPart l i j ≤ 100000 := by
  have h1 := sum_le (f := fun k => wdR l (-20 + (i : Int)) (-20 + (k : Int))) (b := 40) (fun k => wdR_le l _ _) j
  have h2 := sum_le (f := awRow l) (b := 1640) (fun k => awRow_le l k) i
  unfold awPart
  omega

/-- The most so far: of the first rows, and of the first entries of the next one. -/
def moRow (l : List UInt8) (i : Nat) : Nat → Int := mostRow (wdL l) i
def moPart (l : List UInt8) (i j : Nat) : Int := max (mxTo (fun i => mxTo (moRow l i) 41) i) (mxTo (moRow l i) j)
theorem moPart_zero (l : List UInt8) (i : Nat) : moPart l i 0 = mxTo (fun i => mxTo (moRow l i) 41) i := by
  unfold moPart
  have := mxTo_nonneg (fun i => mxTo (moRow l i) 41) i
  show max _ 0 = _
  omega
theorem moPart_succ (l : List UInt8) (i j : Nat) : moPart l i (j + 1) = max (moPart l i j) (absI (wdL l (-20 + (i : Int)) (-20 + (j : Int)))) := by
  unfold moPart
  show max _ (max (mxTo (moRow l i) j) (moRow l i j)) = _
  show max _ (max (mxTo (moRow l i) j) (absI (wdL l (-20 + (i : Int)) (-20 + (j : Int))))) = _
  omega
theorem moPart_full (l : List UInt8) (i : Nat) : moPart l i 41 = mxTo (fun i => mxTo (moRow l i) 41) (i + 1) := rfl
theorem mo_all {l : List UInt8} (h : clL l = true) : mxTo (fun i => mxTo (moRow l i) 41) 41 = moR l := by unfold moR; rw [if_pos h]; rfl
theorem moR_no {l : List UInt8} (h : clL l = false) : moR l = -1 := by unfold moR; rw [h]; rfl
theorem mxTo_le {f : Nat → Int} {b : Int} (hb : 0 ≤ b) (h : ∀ k, f k ≤ b) : ∀ n : Nat, mxTo f n ≤ b
  | 0 => hb
  | n + 1 => by
    have ih := mxTo_le hb h n
    have := h n
    show max (mxTo f n) (f n) ≤ b
    omega
theorem moPart_le {l : List UInt8} (h : clL l = true) (i j : Nat) : 0 ≤ moPart l i j ∧ moPart l i j ≤ 40 := by
  have hr : ∀ i k, moRow l i k ≤ 40 := fun i k => by
    have := wd_four h (-20 + (i : Int)) (-20 + (k : Int))
    have := wkL_len (clL_wk h)
    show absI _ ≤ 40
    omega
  have h1 := mxTo_le (b := 40) (by omega) (hr i) j
  have h2 := mxTo_le (f := fun i => mxTo (moRow l i) 41) (b := 40) (by omega) (fun i => mxTo_le (by omega) (hr i) 41) i
  have h3 := mxTo_nonneg (moRow l i) j
  unfold moPart
  omega

/-- Two walks, one behind the other. -/
def btB (a b : ByteArray) : Bool := clL (lets a) && (clL (lets b) && decide (a.size + b.size ≤ 40))
def btS (a b : ByteArray) : ByteArray := if btB a b then a ++ b else ⟨#[]⟩
theorem bt_no {a b : ByteArray} (h : btB a b = false) : btS a b = ⟨#[]⟩ := by unfold btS; rw [h]; rfl
theorem bt_yes {a b : ByteArray} (h : btB a b = true) : btS a b = a ++ b := by unfold btS; rw [if_pos h]

set_option maxHeartbeats 2000000 in
theorem specBothOf_c (a b : ByteArray) (ha : a.size ≤ maxLen) (hb : b.size ≤ maxLen) (w : World) :
    Calls Tryd.prog 19 #[.string a, .string b] w fun e w' => e = .returned (.tuple #[.string (btS a b), .bool (btB a b)]) ∧ Below w.heap.size w w' := by
  have HCA := hid (fun w => specClosedOk_c a ha w)
  have HCB := hid (fun w => specClosedOk_c b hb w)
  cases h1 : clL (lets a) with
  | false =>
    have hf : btB a b = false := by unfold btB; rw [h1]; rfl
    have HR := hid (bt_no hf)
    have HF := hid hf
    rw [h1] at HCA
    clear h1 hf
    go_enter Tryd.func19, Tryd.ntmps19
    go_wp2_with fail
    refine (HCA.out _).mono ?_
    rintro e w1 ⟨rfl, hb1⟩
    have HB1 := hid hb1
    clear hb1
    go_wp2_with fail
    go_ret2
    exact ⟨by rw [HR.out, HF.out]; rfl, HB1.out⟩
  | true =>
    cases h2 : clL (lets b) with
    | false =>
      have hf : btB a b = false := by unfold btB; rw [h1, h2]; rfl
      have HR := hid (bt_no hf)
      have HF := hid hf
      rw [h1] at HCA
      rw [h2] at HCB
      clear h1 h2 hf
      go_enter Tryd.func19, Tryd.ntmps19
      go_wp2_with fail
      refine (HCA.out _).mono ?_
      rintro e w1 ⟨rfl, hb1⟩
      have HB1 := hid hb1
      clear hb1
      go_wp2_with fail
      refine (HCB.out _).mono ?_
      rintro e w2 ⟨rfl, hb2⟩
      have HB2 := hid (HB1.out.trans (hb2.mono HB1.out.size))
      clear hb2
      go_wp2_with fail
      go_ret2
      exact ⟨by rw [HR.out, HF.out]; rfl, HB2.out⟩
    | true =>
      have s1 := (cl_facts h1).1
      have s2 := (cl_facts h2).1
      by_cases h3 : a.size + b.size ≤ 40
      · have hf : btB a b = true := by unfold btB; rw [h1, h2]; simp [h3]
        have HR := hid (bt_yes hf)
        have HF := hid hf
        rw [h1] at HCA
        rw [h2] at HCB
        have i1 : (a.size : Int) + (b.size : Int) ≤ 40 := by omega
        clear h1 h2 hf
        go_enter Tryd.func19, Tryd.ntmps19
        go_wp2_with fail
        refine (HCA.out _).mono ?_
        rintro e w1 ⟨rfl, hb1⟩
        have HB1 := hid hb1
        clear hb1
        go_wp2_with fail
        refine (HCB.out _).mono ?_
        rintro e w2 ⟨rfl, hb2⟩
        have HB2 := hid (HB1.out.trans (hb2.mono HB1.out.size))
        clear hb2
        go_wp2_with fail
        go_ret2
        exact ⟨by rw [HR.out, HF.out]; rfl, HB2.out⟩
      · have hf : btB a b = false := by unfold btB; rw [h1, h2]; simp; omega
        have HR := hid (bt_no hf)
        have HF := hid hf
        rw [h1] at HCA
        rw [h2] at HCB
        have i1 : ¬ (a.size : Int) + (b.size : Int) ≤ 40 := by omega
        clear h1 h2 hf
        go_enter Tryd.func19, Tryd.ntmps19
        go_wp2_with fail
        refine (HCA.out _).mono ?_
        rintro e w1 ⟨rfl, hb1⟩
        have HB1 := hid hb1
        clear hb1
        go_wp2_with fail
        refine (HCB.out _).mono ?_
        rintro e w2 ⟨rfl, hb2⟩
        have HB2 := hid (HB1.out.trans (hb2.mono HB1.out.size))
        clear hb2
        go_wp2_with fail
        go_ret2
        exact ⟨by rw [HR.out, HF.out]; rfl, HB2.out⟩

set_option maxHeartbeats 2000000 in
theorem implBothOf_c (a b : ByteArray) (ha : a.size ≤ maxLen) (hb : b.size ≤ maxLen) (w : World) (hd : Dirs w) :
    Calls Tryd.prog 18 #[.string a, .string b] w fun e w' => e = .returned (.tuple #[.string (btS a b), .bool (btB a b)]) ∧ Below w.heap.size w w' := by
  have HD := hid hd
  clear hd
  have HCA := hid (fun w hd => implClosedOk_c a ha w hd)
  have HCB := hid (fun w hd => implClosedOk_c b hb w hd)
  cases h1 : clL (lets a) with
  | false =>
    have hf : btB a b = false := by unfold btB; rw [h1]; rfl
    have HR := hid (bt_no hf)
    have HF := hid hf
    rw [h1] at HCA
    clear h1 hf
    go_enter Tryd.func18, Tryd.ntmps18
    go_wp2_with fail
    refine (HCA.out _ HD.out).mono ?_
    rintro e w1 ⟨rfl, hb1⟩
    have HB1 := hid hb1
    clear hb1
    go_wp2_with fail
    go_ret2
    exact ⟨by rw [HR.out, HF.out]; rfl, HB1.out⟩
  | true =>
    cases h2 : clL (lets b) with
    | false =>
      have hf : btB a b = false := by unfold btB; rw [h1, h2]; rfl
      have HR := hid (bt_no hf)
      have HF := hid hf
      rw [h1] at HCA
      rw [h2] at HCB
      clear h1 h2 hf
      go_enter Tryd.func18, Tryd.ntmps18
      go_wp2_with fail
      refine (HCA.out _ HD.out).mono ?_
      rintro e w1 ⟨rfl, hb1⟩
      have HB1 := hid hb1
      clear hb1
      go_wp2_with fail
      refine (HCB.out _ (HD.out.below HB1.out)).mono ?_
      rintro e w2 ⟨rfl, hb2⟩
      have HB2 := hid (HB1.out.trans (hb2.mono HB1.out.size))
      clear hb2
      go_wp2_with fail
      go_ret2
      exact ⟨by rw [HR.out, HF.out]; rfl, HB2.out⟩
    | true =>
      have s1 := (cl_facts h1).1
      have s2 := (cl_facts h2).1
      by_cases h3 : a.size + b.size ≤ 40
      · have hf : btB a b = true := by unfold btB; rw [h1, h2]; simp [h3]
        have HR := hid (bt_yes hf)
        have HF := hid hf
        rw [h1] at HCA
        rw [h2] at HCB
        have i1 : (a.size : Int) + (b.size : Int) ≤ 40 := by omega
        clear h1 h2 hf
        go_enter Tryd.func18, Tryd.ntmps18
        go_wp2_with fail
        refine (HCA.out _ HD.out).mono ?_
        rintro e w1 ⟨rfl, hb1⟩
        have HB1 := hid hb1
        clear hb1
        go_wp2_with fail
        refine (HCB.out _ (HD.out.below HB1.out)).mono ?_
        rintro e w2 ⟨rfl, hb2⟩
        have HB2 := hid (HB1.out.trans (hb2.mono HB1.out.size))
        clear hb2
        go_wp2_with fail
        go_ret2
        exact ⟨by rw [HR.out, HF.out]; rfl, HB2.out⟩
      · have hf : btB a b = false := by unfold btB; rw [h1, h2]; simp; omega
        have HR := hid (bt_no hf)
        have HF := hid hf
        rw [h1] at HCA
        rw [h2] at HCB
        have i1 : ¬ (a.size : Int) + (b.size : Int) ≤ 40 := by omega
        clear h1 h2 hf
        go_enter Tryd.func18, Tryd.ntmps18
        go_wp2_with fail
        refine (HCA.out _ HD.out).mono ?_
        rintro e w1 ⟨rfl, hb1⟩
        have HB1 := hid hb1
        clear hb1
        go_wp2_with fail
        refine (HCB.out _ (HD.out.below HB1.out)).mono ?_
        rintro e w2 ⟨rfl, hb2⟩
        have HB2 := hid (HB1.out.trans (hb2.mono HB1.out.size))
        clear hb2
        go_wp2_with fail
        go_ret2
        exact ⟨by rw [HR.out, HF.out]; rfl, HB2.out⟩
end Go.Proofs.YtmojhdnehmjnmaaDoor
