/- Contracts: ClosedOk and SimpleOk of the reference. -/
import Derived.Test.YtkfmppjljdhogaaDoorPlR
import Derived.LoopN
import Derived.Deep.QuietTactic
import Derived.BigQuiet
namespace Go.Proofs.YtkfmppjljdhogaaDoor
open Go.RowKit TW

set_option maxHeartbeats 2000000 in
theorem specClosedOk_c (s : ByteArray) (hs : s.size ≤ maxLen) (w : World) :
    Calls Tryd.prog 31 #[.string s] w fun e w' => e = .returned (.bool (clL (lets s))) ∧ Below w.heap.size w w' := by
  go_enter Tryd.func31, Tryd.ntmps31
  go_wp2_with fail
  refine (specPlacesOf_c s hs _).mono ?_
  rintro e w1 ⟨v, rfl, hb1, hp⟩
  have HB1 := hid hb1
  clear hb1 hs
  cases hok : wkL (lets s) with
  | false =>
    obtain ⟨ad, cap, rfl⟩ := hp.2 hok
    have HR := hid (cl_no hok)
    clear hok hp
    go_wp2_with fail
    go_ret
    exact ⟨ret_bool HR.out.symm, HB1.out⟩
  | true =>
    have h40 := wkL_len hok
    have hv := hp.1 hok
    rw [lets_len] at hv h40
    obtain ⟨g, cap, rfl, hle, hm, hg, hrows⟩ := hv
    by_cases h0 : s.size = 0
    · have HR : Hid (clL (lets s) = false) := hid (cl_nil (by rw [lets_len]; exact h0))
      rw [h0] at *
      clear hok hp hrows h0
      go_wp2_with fail
      go_ret
      exact ⟨ret_bool HR.out.symm, HB1.out⟩
    · have HR : Hid (clL (lets s) = (decide (PX (lets s) s.size = 0) && decide (PY (lets s) s.size = 0))) := hid (by have := cl_of hok (by rw [lets_len]; omega); rw [lets_len] at this; exact this)
      obtain ⟨r, hr, q0, q1, q2⟩ := hrows s.size (by omega)
      clear hok hp hrows
      generalize PX (lets s) s.size = x at *
      generalize PY (lets s) s.size = y at *
      obtain ⟨n, hn⟩ : ∃ n : Nat, n = s.size + 1 := ⟨_, rfl⟩
      have i0 : (n : Int) - 1 = (s.size : Int) := by omega
      have i1 : (s.size : Int) < (n : Int) := by omega
      have i2 : (0 : Int) ≤ (s.size : Int) := by omega
      have i3 : (1 : Int) < (n : Int) := by omega
      have i4 : (n : Int) ≤ 41 := by omega
      rw [← hn] at hle ⊢
      clear hn h0 hle h40
      by_cases hx : x = 0
      · have t1 : (x == 0) = true := by simpa using hx
        have HX := hid hx
        by_cases hy : y = 0
        · have t2 : (y == 0) = true := by simpa using hy
          have HY := hid hy
          clear hx hy
          go_wp2_with fail
          go_ret
          exact ⟨ret_bool (by rw [HR.out, HX.out, HY.out]; rfl), HB1.out⟩
        · have t2 : (y == 0) = false := by simpa using hy
          have HY := hid hy
          clear hx hy
          go_wp2_with fail
          go_ret
          exact ⟨ret_bool (by rw [HR.out]; have := HY.out; simp [this]), HB1.out⟩
      · have t1 : (x == 0) = false := by simpa using hx
        have HX := hid hx
        clear hx
        go_wp2_with fail
        go_ret
        exact ⟨ret_bool (by rw [HR.out]; have := HX.out; simp [this]), HB1.out⟩

/-- No place twice so far. -/
def ApTo (l : List UInt8) (n : Nat) : Prop := ∀ j k, 1 ≤ j → j < k → k < n → ¬ (PX l k = PX l j ∧ PY l k = PY l j)
def ApRow (l : List UInt8) (k m : Nat) : Prop := ∀ j, 1 ≤ j → j < m → ¬ (PX l k = PX l j ∧ PY l k = PY l j)
theorem ApTo_one (l : List UInt8) : ApTo l 1 := fun j k h1 h2 h3 => by omega
theorem ApRow_one (l : List UInt8) (k : Nat) : ApRow l k 1 := fun j h1 h2 => by omega
theorem ApRow_succ {l : List UInt8} {k m : Nat} (h : ApRow l k m) (hn : ¬ (PX l k = PX l m ∧ PY l k = PY l m)) : ApRow l k (m + 1) := fun j h1 h2 => by
  by_cases e : j = m
  · subst e; exact hn
  · exact h j h1 (by omega)
theorem ApTo_succ {l : List UInt8} {k : Nat} (h : ApTo l k) (hr : ApRow l k k) : ApTo l (k + 1) := fun j k' h1 h2 h3 => by
  by_cases e : k' = k
  · subst e; exact hr j h1 h2
  · exact h j k' h1 h2 (by omega)
theorem ap_no {l : List UInt8} {j k : Nat} (h1 : 1 ≤ j) (h2 : j < k) (h3 : k ≤ l.length) (h : PX l k = PX l j ∧ PY l k = PY l j) : smL l = false := smL_no (fun ha => ha j k h1 h2 h3 h)
theorem ap_all {l : List UInt8} (h : ApTo l (l.length + 1)) : smL l = clL l := by
  cases hc : clL l with
  | false => exact smL_open hc
  | true => exact smL_mk hc (fun j k h1 h2 h3 => h j k h1 h2 (by omega))

set_option maxHeartbeats 4000000 in
theorem specSimpleOk_c (s : ByteArray) (hs : s.size ≤ maxLen) (w : World) :
    Calls Tryd.prog 37 #[.string s] w fun e w' => e = .returned (.bool (smL (lets s))) ∧ Below w.heap.size w w' := by
  have HSZ := hid hs
  go_enter Tryd.func37, Tryd.ntmps37
  go_wp2_with fail
  refine (specPlacesOf_c s hs _).mono ?_
  rintro e w1 ⟨v, rfl, hb1, hp⟩
  have HB1 := hid hb1
  clear hb1 hs
  cases hok : wkL (lets s) with
  | false =>
    obtain ⟨ad, cap, rfl⟩ := hp.2 hok
    have HR : Hid (smL (lets s) = clL (lets s)) := hid (by rw [smL_open (cl_no hok), cl_no hok])
    clear hok hp
    go_wp2_with fail
    refine wp_loop_rounds 1 ?_
    rw [rounds_succ]
    go_wp2_with fail
    refine (specClosedOk_c s HSZ.out _).mono ?_
    rintro e w2 ⟨rfl, hb2⟩
    have HB2 := hid (HB1.out.trans (hb2.mono HB1.out.size))
    clear hb2
    go_wp2_with fail
    go_ret
    exact ⟨ret_bool HR.out.symm, HB2.out⟩
  | true =>
    have h40 := wkL_len hok
    have hv := hp.1 hok
    rw [lets_len] at hv h40
    obtain ⟨g, cap, rfl, hle, hm, hg, hrows⟩ := hv
    have HV := hid hrows
    obtain ⟨n, hn⟩ : ∃ n : Nat, n = s.size + 1 := ⟨_, rfl⟩
    have i4 : n ≤ 41 := by omega
    have HN := hid hn
    rw [← hn] at hle HV ⊢
    clear hok hp hrows h40 hn
    go_wp2_with fail
    go_loopg [4] 99 (fun gg i wr => ∃ (k d : Nat), gg = 100 - k ∧ 1 ≤ k ∧ k ≤ n ∧ i = .int .i64 k ∧ Hid (ApTo (lets s) k) ∧ wr = w1.drewN d)
    case atStart => exact ⟨1, 0, rfl, Nat.le_refl _, by have := HN.out; omega, rfl, hid (ApTo_one _), rfl⟩
    case round =>
      obtain ⟨k, d, hgg, hk1, hk, rfl, HA, rfl⟩ := hrel
      have HGG := hid hgg
      clear hgg
      by_cases hlt : k < n
      · have hlt' : (k : Int) < (n : Int) := by omega
        go_wp2_with fail
        go_loopg [5] 99 (fun gg i wr => ∃ (j d : Nat), gg = 100 - j ∧ 1 ≤ j ∧ j ≤ k ∧ i = .int .i64 j ∧ Hid (ApRow (lets s) k j) ∧ wr = w1.drewN d)
        case atStart => exact ⟨1, d, rfl, Nat.le_refl _, hk1, rfl, hid (ApRow_one _ _), rfl⟩
        case round =>
          obtain ⟨j, d, hgg2, hj1, hj, rfl, HA2, rfl⟩ := hrel
          have HGG2 := hid hgg2
          clear hgg2
          by_cases hlt2 : j < k
          · obtain ⟨r, hr, q0, q1, q2⟩ := HV.out k hlt
            obtain ⟨r', hr', p0, p1, p2⟩ := HV.out j (by omega)
            have HLE : Hid (k ≤ (lets s).length) := hid (by have := HN.out; rw [lets_len]; omega)
            generalize hx1 : PX (lets s) k = x at *
            have HX1 := hid hx1
            generalize hx2 : PX (lets s) j = x' at *
            have HX2 := hid hx2
            generalize hy1 : PY (lets s) k = y at *
            have HY1 := hid hy1
            generalize hy2 : PY (lets s) j = y' at *
            have HY2 := hid hy2
            clear hx1 hx2 hy1 hy2
            have j1' : (j : Int) < (n : Int) := by omega
            have j2' : (j : Int) < (k : Int) := by omega
            have j0 : (0 : Int) ≤ (j : Int) := by omega
            have k0 : (0 : Int) ≤ (k : Int) := by omega
            by_cases hx : x = x'
            · have t1 : (x == x') = true := by simpa using hx
              by_cases hy : y = y'
              · have t2 : (y == y') = true := by simpa using hy
                have HNo : Hid (smL (lets s) = false) := hid (ap_no hj1 hlt2 HLE.out ⟨by rw [HX1.out, HX2.out, hx], by rw [HY1.out, HY2.out, hy]⟩)
                clear hx hy
                go_wp2_with fail
                go_quiet (fail)
                go_wp2_with fail
                go_ret
                exact ⟨ret_bool HNo.out.symm, below_drewN (below_drewN HB1.out _) _⟩
              · have t2 : (y == y') = false := by simpa using hy
                have HNo : Hid (ApRow (lets s) k (j + 1)) := hid (ApRow_succ HA2.out (fun h => hy (by rw [← HY1.out, ← HY2.out]; exact h.2)))
                clear hx hy
                go_wp2_with fail
                go_quiet (fail)
                go_wp2_with fail
                go_roundg (100 - (j + 1))
                case measure => rw [HGG2.out]; omega
                case rel => exact ⟨j + 1, _, rfl, by omega, by omega, by go_num, HNo, rfl⟩
            · have t1 : (x == x') = false := by simpa using hx
              have HNo : Hid (ApRow (lets s) k (j + 1)) := hid (ApRow_succ HA2.out (fun h => hx (by rw [← HX1.out, ← HX2.out]; exact h.1)))
              clear hx
              go_wp2_with fail
              go_quiet (fail)
              go_wp2_with fail
              go_roundg (100 - (j + 1))
              case measure => rw [HGG2.out]; omega
              case rel => exact ⟨j + 1, _, rfl, by omega, by omega, by go_num, HNo, rfl⟩
          · have HJK : Hid (j = k) := hid (by omega)
            have j2' : ¬ (j : Int) < (k : Int) := by omega
            have HA3 : Hid (ApTo (lets s) (k + 1)) := hid (ApTo_succ HA.out (by have := HA2.out; rw [HJK.out] at this; exact this))
            clear hlt2 hj
            go_wp2_with fail
            go_roundg (100 - (k + 1))
            case measure => rw [HGG.out]; omega
            case rel => exact ⟨k + 1, d, rfl, by omega, by omega, by go_num, HA3, rfl⟩
      · have HKN : Hid (k = n) := hid (by omega)
        have hlt' : ¬ (k : Int) < (n : Int) := by omega
        have HR : Hid (smL (lets s) = clL (lets s)) := hid (ap_all (by have := HA.out; rw [HKN.out, HN.out] at this; rw [lets_len]; exact this))
        clear hlt hk
        go_wp2_with fail
        refine (specClosedOk_c s HSZ.out _).mono ?_
        rintro e w2 ⟨rfl, hb2⟩
        have HB2 := hid ((below_drewN HB1.out d).trans (hb2.mono (below_drewN HB1.out d).size))
        clear hb2
        go_wp2_with fail
        go_ret
        exact ⟨ret_bool HR.out.symm, HB2.out⟩
end Go.Proofs.YtkfmppjljdhogaaDoor
