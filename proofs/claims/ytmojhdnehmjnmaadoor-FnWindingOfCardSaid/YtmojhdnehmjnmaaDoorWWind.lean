/- The walk of FnWindingOf. -/
import Derived.Test.YtmojhdnehmjnmaaDoorDrawV
import Derived.Test.YtmojhdnehmjnmaaDoorWkF
import Derived.Test.YtmojhdnehmjnmaaDoorSpD
import Derived.Test.YtmojhdnehmjnmaaDoorMov
import Derived.Test.YtmojhdnehmjnmaaDoorAlive
import Derived.Deep.RegionHeld3
namespace Go.Proofs.YtmojhdnehmjnmaaDoor
open Go.RowKit TW

def btS (l : List UInt8) (x y : Int) (k : Nat) : Int := sumTo (btT l x y) k
theorem btS_succ (l : List UInt8) (x y : Int) (k : Nat) : btS l x y (k + 1) = btS l x y k + btT l x y k := rfl
theorem btT_le (l : List UInt8) (x y : Int) (k : Nat) : -1 ≤ btT l x y k ∧ btT l x y k ≤ 1 := by
  unfold btT; repeat' split
  all_goals omega
theorem btS_le (l : List UInt8) (x y : Int) : ∀ k : Nat, -(k : Int) ≤ btS l x y k ∧ btS l x y k ≤ k
  | 0 => by unfold btS; simp [sumTo]
  | k + 1 => by
    have ih := btS_le l x y k
    have d := btT_le l x y k
    rw [btS_succ]
    omega
theorem bt_e {l : List UInt8} {x y : Int} {k : Nat} (h1 : at0 l k ≠ 110) (h2 : at0 l k ≠ 115) : btT l x y k = 0 := by
  unfold btT; rw [if_neg (fun h => h1 h.1), if_neg (fun h => h2 h.1)]
theorem bt_n {l : List UInt8} {x y : Int} {k : Nat} (h1 : at0 l k = 110) : btT l x y k = if PX l k = x + 1 ∧ PY l k = y then 1 else 0 := by
  unfold btT; rw [h1]; simp
theorem bt_s {l : List UInt8} {x y : Int} {k : Nat} (h1 : at0 l k = 115) : btT l x y k = if PX l k = x + 1 ∧ PY l k = y + 1 then -1 else 0 := by
  unfold btT; rw [h1]; simp
theorem wdR_le (l : List UInt8) (x y : Int) : -40 ≤ wdR l x y ∧ wdR l x y ≤ 40 := by
  unfold wdR
  split
  · rename_i h
    have h1 := wkL_len (clL_wk h)
    have h2 := wdS_le l x y l.length
    have e : wdS l x y l.length = wdL l x y := rfl
    rw [e] at h2
    omega
  · omega
theorem let_cases {b : UInt8} (h : isStep b = true) : (b ≠ 110 ∧ b ≠ 115 ∧ ((b.toNat : Int) == 110) = false ∧ ((b.toNat : Int) == 115) = false) ∨ (b = 110 ∧ ((b.toNat : Int) == 110) = true ∧ ((b.toNat : Int) == 115) = false) ∨ (b = 115 ∧ ((b.toNat : Int) == 110) = false ∧ ((b.toNat : Int) == 115) = true) := by
  rcases isStep_cases h with rfl | rfl | rfl | rfl
  · exact .inl (by decide)
  · exact .inr (.inl (by decide))
  · exact .inl (by decide)
  · exact .inr (.inr (by decide))

set_option maxRecDepth 100000 in
set_option maxHeartbeats 8000000 in
theorem walk_FnWindingOf (a : Option Addr) (len cap : Nat) (zs : List Int) (w : World) (h : IsRow .u8 w a len cap zs) (hd : Dirs w) :
    Calls Tryd.prog 5 #[.slice a len cap] w fun e w' => e = .returned (.bool true) ∧ Below w.heap.size w w' := by
  have HD := hid hd
  clear hd
  by_cases hbig : 1048576 < len
  · go_enter Tryd.func5, Tryd.ntmps5
    go_wp2
    go_ret
    exact ⟨rfl, Below.refl _ _⟩
  · go_enter Tryd.func5, Tryd.ntmps5
    go_wp2_with fail
    refine (drawWindingOf_c _ _ _ _ _ h).mono ?_
    rintro e w1 ⟨s, x, y, rfl, hs, ⟨hx0, hx1, hy0, hy1⟩, hb⟩
    have HB := hid hb
    have HSZ : Hid (s.size ≤ maxLen) := hid (by unfold maxLen; omega)
    clear hb h
    have H1 := hid (fun w hd => implWindingOf_c s HSZ.out x y w hd)
    have H2 := hid (fun w => specWindingOf_c s HSZ.out x y w)
    have H3 := hid (fun w => specClosedOk_c s HSZ.out w)
    go_wp2_with fail
    refine (H1.out _ (HD.out.below HB.out)).mono ?_
    rintro e w2 ⟨rfl, hb⟩
    have HB := hid (HB.out.trans (hb.mono HB.out.size))
    clear hb
    go_wp2_with fail
    refine (H2.out _).mono ?_
    rintro e w3 ⟨rfl, hb⟩
    have HB := hid (HB.out.trans (hb.mono HB.out.size))
    clear hb
    go_wp2_with fail
    refine (H3.out _).mono ?_
    rintro e w4 ⟨rfl, hb⟩
    have HB := hid (HB.out.trans (hb.mono HB.out.size))
    clear hb H2 H3
    cases hcl : clL (lets s) with
    | false =>
      have e1 := wdR_no hcl x y
      rw [e1]
      clear hcl e1
      go_wp2_with (go_at_call 13; refine (alive_c _).mono ?_; rintro e w' ⟨rfl, rfl⟩)
      go_ret
      exact ⟨rfl, HB.out⟩
    | true =>
      obtain ⟨h40, hall⟩ := cl_facts hcl
      have HA := hid hall
      have hpos := clL_pos hcl
      rw [lets_len] at hpos
      have hk : s.size / 2 < s.size := by omega
      have HM := hid (fun w hd => implMovedOn_c s (s.size / 2) hk hcl w hd)
      have hmc := moved_cl hcl (k := s.size / 2) (by rw [lets_len]; exact hk)
      have hmw := moved_wd hcl (k := s.size / 2) (by rw [lets_len]; exact hk) x y
      have HWM : Hid (∀ a b, a = x - PX (lets s) (s.size / 2) → b = y - PY (lets s) (s.size / 2) → ∀ w, Dirs w → Calls Tryd.prog 20 #[.string (bStr (movedL (lets s) (s.size / 2))), .int .i64 a, .int .i64 b] w fun e w' => e = .returned (.int .i64 (wdR (lets s) x y)) ∧ Below w.heap.size w w') := hid (by
        rintro a b rfl rfl w hd
        have := implWindingOf_c (bStr (movedL (lets s) (s.size / 2))) (by unfold maxLen; rw [bStr_size, moved_len, lets_len]; omega) (x - PX (lets s) (s.size / 2)) (y - PY (lets s) (s.size / 2)) w hd
        rw [lets_bStr, wdR_yes hmc, hmw, ← wdR_yes hcl] at this
        exact this)
      have HE : Hid (∀ w, Dirs w → Calls Tryd.prog 20 #[.string s, .int .i64 (x + 1), .int .i64 y] w fun e w' => e = .returned (.int .i64 (wdR (lets s) x y - btS (lets s) x y s.size)) ∧ Below w.heap.size w w') := hid (by
        intro w hd
        have := implWindingOf_c s HSZ.out (x + 1) y w hd
        rw [wdR_yes hcl, ← wd_east (clL_wk hcl) x y, ← wdR_yes hcl] at this
        have e : btL (lets s) x y = btS (lets s) x y s.size := by unfold btL btS; rw [lets_len]
        rw [e] at this
        exact this)
      have ek : ((s.size / 2 : Nat) : Int) = (s.size : Int) / 2 := by omega
      rw [ek] at HM
      obtain ⟨n1, n2⟩ := wdR_le (lets s) x y
      have HC := hid hcl
      clear hmc hmw ek hcl hall H1
      generalize bStr (movedL (lets s) (s.size / 2)) = M at *
      generalize wdR (lets s) x y = N at *
      go_wp2_with fail
      refine (specPlacesOf_c s HSZ.out _).mono ?_
      rintro e w5 ⟨v, rfl, hb2, hp⟩
      have HB := hid (HB.out.trans (hb2.mono HB.out.size))
      have hv := hp.1 (clL_wk HC.out)
      rw [lets_len] at hv
      obtain ⟨g, cap, rfl, hle, hm, hg, hrows⟩ := hv
      have HV := hid hrows
      have HG := hid hg
      clear hb2 hrows hp hg
      obtain ⟨n, hn⟩ : ∃ n : Nat, n = s.size + 1 := ⟨_, rfl⟩
      have HN := hid hn
      rw [← hn] at hle HV ⊢
      clear hn
      go_wp2_with fail
      go_loopg [8, 9] 100 (fun gg a i wr => ∃ k : Nat, gg = 100 - k ∧ k ≤ s.size ∧ i = .int .i64 k ∧ a = .int .i64 (btS (lets s) x y k) ∧ w5 = wr)
      case atStart => exact ⟨0, rfl, Nat.zero_le _, rfl, rfl, rfl⟩
      case round =>
        obtain ⟨k, hgg, hk', rfl, rfl, rfl⟩ := hrel
        have HGG := hid hgg
        clear hgg
        obtain ⟨ba1, ba2⟩ := btS_le (lets s) x y k
        by_cases hlt : k < s.size
        · obtain ⟨r, hr, q0, q1, q2⟩ := HV.out k (by have := HN.out; omega)
          obtain ⟨bx1, bx2⟩ := PX_le (lets s) k
          obtain ⟨by1, by2⟩ := PY_le (lets s) k
          have HS := hid (btS_succ (lets s) x y k)
          have hst : isStep s[k] = true := by
            have h1 := HA.out
            rw [List.all_eq_true] at h1
            exact h1 _ (by have := take_snoc s k hlt; exact List.mem_of_mem_take (i := k + 1) (by rw [this]; simp))
          have hat := at0_lets hlt
          have i1 : (k : Int) < (n : Int) := by have := HN.out; omega
          have i2 : (0 : Int) ≤ (k : Int) := Int.natCast_nonneg _
          rcases let_cases hst with ⟨h1, h2, h3, h4⟩ | ⟨h1, h3, h4⟩ | ⟨h1, h3, h4⟩
          · rw [bt_e (by rw [hat]; exact h1) (by rw [hat]; exact h2), Int.add_zero] at HS
            generalize btS (lets s) x y k = A at *
            generalize PX (lets s) k = p at *
            generalize PY (lets s) k = q at *
            clear h1 h2 hat hst HM HWM HE HC
            go_wp2_with fail
            go_roundg (100 - (k + 1))
            case measure => rw [HGG.out]; omega
            case rel => exact ⟨k + 1, rfl, by omega, by go_num, vint (by rw [HS.out]), rfl⟩
          · rw [bt_n (by rw [hat]; exact h1)] at HS
            generalize btS (lets s) x y k = A at *
            generalize PX (lets s) k = p at *
            generalize PY (lets s) k = q at *
            clear h1 hat hst HM HWM HE HC
            by_cases hp : p = x + 1
            · by_cases hq : q = y
              · rw [if_pos ⟨hp, hq⟩] at HS
                subst hp hq
                go_wp2_with fail
                go_roundg (100 - (k + 1))
                case measure => rw [HGG.out]; omega
                case rel => exact ⟨k + 1, rfl, by omega, by go_num, vint (by rw [HS.out]), rfl⟩
              · rw [if_neg (fun h => hq h.2), Int.add_zero] at HS
                have hq' : (q == y) = false := by rw [beq_eq_false_iff_ne]; exact hq
                subst hp
                clear hq
                go_wp2_with fail
                go_roundg (100 - (k + 1))
                case measure => rw [HGG.out]; omega
                case rel => exact ⟨k + 1, rfl, by omega, by go_num, vint (by rw [HS.out]), rfl⟩
            · rw [if_neg (fun h => hp h.1), Int.add_zero] at HS
              have hp' : (p == x + 1) = false := by rw [beq_eq_false_iff_ne]; exact hp
              clear hp
              go_wp2_with fail
              go_roundg (100 - (k + 1))
              case measure => rw [HGG.out]; omega
              case rel => exact ⟨k + 1, rfl, by omega, by go_num, vint (by rw [HS.out]), rfl⟩
          · rw [bt_s (by rw [hat]; exact h1)] at HS
            generalize btS (lets s) x y k = A at *
            generalize PX (lets s) k = p at *
            generalize PY (lets s) k = q at *
            clear h1 hat hst HM HWM HE HC
            by_cases hp : p = x + 1
            · by_cases hq : q = y + 1
              · rw [if_pos ⟨hp, hq⟩] at HS
                subst hp hq
                go_wp2_with fail
                go_roundg (100 - (k + 1))
                case measure => rw [HGG.out]; omega
                case rel => exact ⟨k + 1, rfl, by omega, by go_num, vint (by rw [HS.out]; omega), rfl⟩
              · rw [if_neg (fun h => hq h.2), Int.add_zero] at HS
                have hq' : (q == y + 1) = false := by rw [beq_eq_false_iff_ne]; exact hq
                subst hp
                clear hq
                go_wp2_with fail
                go_roundg (100 - (k + 1))
                case measure => rw [HGG.out]; omega
                case rel => exact ⟨k + 1, rfl, by omega, by go_num, vint (by rw [HS.out]), rfl⟩
            · rw [if_neg (fun h => hp h.1), Int.add_zero] at HS
              have hp' : (p == x + 1) = false := by rw [beq_eq_false_iff_ne]; exact hp
              clear hp
              go_wp2_with fail
              go_roundg (100 - (k + 1))
              case measure => rw [HGG.out]; omega
              case rel => exact ⟨k + 1, rfl, by omega, by go_num, vint (by rw [HS.out]), rfl⟩
        · have HK : Hid (k = s.size) := hid (by omega)
          have hlt' : ¬ (k : Int) < (s.size : Int) := by omega
          obtain ⟨r, hr, q0, q1, q2⟩ := HV.out (s.size / 2) (by have := HN.out; omega)
          obtain ⟨bx1, bx2⟩ := PX_le (lets s) (s.size / 2)
          obtain ⟨by1, by2⟩ := PY_le (lets s) (s.size / 2)
          have HR := hid hr
          have i1 : (s.size : Int) / 2 < (n : Int) := by have := HN.out; omega
          have i2 : (0 : Int) ≤ (s.size : Int) / 2 := by omega
          have i3 : ((s.size : Int) / 2).toNat = s.size / 2 := by omega
          rw [HK.out] at ba1 ba2 ⊢
          generalize btS (lets s) x y s.size = A at *
          generalize PX (lets s) (s.size / 2) = p at *
          generalize PY (lets s) (s.size / 2) = q at *
          have KS : Hid (∀ w', Below w5.heap.size w5 w' → w'.cell? ⟨g, s.size / 2, none⟩ = some (.slice (some ⟨r, 0, none⟩) 2 2) ∧ w'.cell? ⟨r, 0, none⟩ = some (.int .i64 p) ∧ w'.cell? ⟨r, 1, none⟩ = some (.int .i64 q)) := hid (fun w' hb => ⟨(hb.cell (p := ⟨g, s.size / 2, none⟩) HG.out).trans q0, (hb.cell (p := ⟨r, 0, none⟩) HR.out).trans q1, (hb.cell (p := ⟨r, 1, none⟩) HR.out).trans q2⟩)
          have HBc : Hid (Below w5.heap.size w5 w5.drew) := hid (Below.refl _ _).drew
          clear hlt hk' hr
          go_wp2_with fail
          go_region_held3 (fun w' => w'.cell? ⟨g, s.size / 2, none⟩ = some (.slice (some ⟨r, 0, none⟩) 2 2) ∧ w'.cell? ⟨r, 0, none⟩ = some (.int .i64 p) ∧ w'.cell? ⟨r, 1, none⟩ = some (.int .i64 q)) (first | exact KS.out _ HBc.out)
            (first
              | (go_at_call 26
                 refine (HM.out _ ?_).mono ?_
                 · exact HD.out.below (HB.out.trans (HBc.out.mono HB.out.size))
                 rintro e w6 ⟨rfl, hb⟩
                 have HBc := hid (HBc.out.trans (hb.mono HBc.out.size))
                 clear hb)
              | (go_at_call 20
                 refine (HWM.out _ _ ?_ ?_ _ ?_).mono ?_
                 · first | rfl | exact IntWalk.i64_in _ (by omega)
                 · first | rfl | exact IntWalk.i64_in _ (by omega)
                 · exact HD.out.below (HB.out.trans (HBc.out.mono HB.out.size))
                 rintro e w7 ⟨rfl, hb⟩
                 have HBc := hid (HBc.out.trans (hb.mono HBc.out.size))
                 clear hb))
          go_wp2_with (first
            | (go_at_call 20
               refine (HE.out _ (HD.out.below (HB.out.trans (HBc.out.mono HB.out.size)))).mono ?_
               rintro e w8 ⟨rfl, hb⟩
               have HBc := hid (HBc.out.trans (hb.mono HBc.out.size))
               clear hb)
            | (go_at_call 13; refine (alive_c _).mono ?_; rintro e w' ⟨rfl, rfl⟩))
          go_ret
          exact ⟨rfl, HB.out.trans (HBc.out.mono HB.out.size)⟩
end Go.Proofs.YtmojhdnehmjnmaaDoor
