/- Contract: l20Walk: some text of at most forty-one letters. -/
import Derived.Test.YtkfmppjljdhogaaDoorDrawW
import Derived.Deep.LoopGhost
namespace Go.Proofs.YtkfmppjljdhogaaDoor
open Go.RowKit TW

theorem app_size (t : ByteArray) (A : ByteArray) (hA : A.size = 1) : (t ++ A).size = t.size + 1 := by rw [ByteArray.size_append, hA]

theorem four_strs {W w4 : World} {rb : Nat} {a b c d : Value} {t : TypeId} (hg : (W.alloc (.cells #[a, b, c, d] t)).grownBy w4 (some rb)) (hr : rb < W.heap.size) :
    w4.cell? ⟨W.heap.size, 0, none⟩ = some a ∧ w4.cell? ⟨W.heap.size, 1, none⟩ = some b ∧ w4.cell? ⟨W.heap.size, 2, none⟩ = some c ∧ w4.cell? ⟨W.heap.size, 3, none⟩ = some d := by
  have hq := World.news_of_block (w := w4) (B := W.heap.size) (cs := #[a, b, c, d]) (t := t) (fr := (0, 0)) (by rw [hg.block _ (by simp) (by simp; omega)]; exact heap_alloc_new W _)
  exact ⟨hq 0 _ rfl, hq 1 _ rfl, hq 2 _ rfl, hq 3 _ rfl⟩
theorem two_strs {W w4 : World} {rb : Nat} {a b : Value} {t : TypeId} (hg : (W.alloc (.cells #[a, b] t)).grownBy w4 (some rb)) (hr : rb < W.heap.size) :
    w4.cell? ⟨W.heap.size, 0, none⟩ = some a ∧ w4.cell? ⟨W.heap.size, 1, none⟩ = some b := by
  have hq := World.news_of_block (w := w4) (B := W.heap.size) (cs := #[a, b]) (t := t) (fr := (0, 0)) (by rw [hg.block _ (by simp) (by simp; omega)]; exact heap_alloc_new W _)
  exact ⟨hq 0 _ rfl, hq 1 _ rfl⟩
theorem vintX {a b : Int} (h : a = b) : Value.int .i64 a = .int .i64 b := by rw [h]

theorem mod_cut {X : Int} {n : Nat} {wx wr : World} (h : 0 ≤ X) (hn : 1 ≤ n) (e : wx = wr) : ∃ q : Nat, q < n ∧ Value.int .i64 (X % (n : Int)) = .int .i64 q ∧ wx = wr := by
  have h1 := Int.emod_nonneg X (b := (n : Int)) (by omega)
  have h2 := Int.emod_lt_of_pos X (b := (n : Int)) (by omega)
  exact ⟨(X % (n : Int)).toNat, by omega, vintX (by omega), e⟩

set_option maxRecDepth 100000 in
set_option maxHeartbeats 16000000 in
theorem l20Walk_c (rb : Nat) (n b : Int) (w : World) (h : RdS w rb b) (hb0 : 0 ≤ b) (hb : b ≤ 90000) (hn : 1 ≤ n) (hn2 : n ≤ 1000) :
    Calls Tryd.prog 25 #[.pointer (some ⟨rb, 0, none⟩), .int .i64 n] w (DrawnS w rb 0 41 (b + 40)) := by
  go_enter Tryd.func25, Tryd.ntmps25
  go_wp2_with fail
  refine (pick_s _ _ _ _ h (by omega) (by omega)).mono ?_
  rintro e w1 ⟨v, rfl, hv0, hv1, hr, hg⟩
  have HR := hid hr
  have HG := hid hg
  clear hr hg h
  obtain rfl | rfl | rfl | hv : v = 0 ∨ v = 1 ∨ v = 2 ∨ 3 ≤ v := by omega
  · -- letters one by one
    go_wp2_with fail
    refine (pick_s _ _ _ _ HR.out (by omega) (by omega)).mono ?_
    rintro e w2 ⟨u, rfl, hu0, hu1, hr, hg⟩
    have HR := hid hr
    have HG := hid (HG.out.trans hg)
    clear hr hg
    obtain ⟨m, rfl⟩ := Int.eq_ofNat_of_zero_le hu0
    go_wp2_with fail
    go_loopg [5, 6] m (fun gg s i wr => ∃ (k : Nat) (t : ByteArray), gg = k ∧ k ≤ m ∧ i = .int .i64 k ∧ s = .string t ∧ t.size + k ≤ 12 ∧ Hid (RdS wr rb (b + 15 - k)) ∧ Hid (w.grownBy wr (some rb)))
    case atStart => exact ⟨m, ⟨#[]⟩, rfl, Nat.le_refl _, rfl, rfl, by show 0 + m ≤ 12; omega, hid (HR.out.mono (by omega)), HG⟩
    case round =>
      clear HR HG
      obtain ⟨k, t, hgg, hk, rfl, rfl, ht, HR, HG⟩ := hrel
      have HGG := hid hgg
      clear hgg
      by_cases hlt : 0 < k
      · have i1 : (0 : Int) < (k : Int) := by omega
        go_wp2_with (go_at_call 27; refine (pick_s _ _ _ _ (HR.out.alloc _) (by omega) (by omega)).mono ?_; rintro e w4 ⟨v, rfl, hv0, hv1, hr, hg⟩; have hq := four_strs hg HR.out.lt; obtain ⟨q0, q1, q2, q3⟩ := hq; obtain rfl | rfl | rfl | rfl : v = 0 ∨ v = 1 ∨ v = 2 ∨ v = 3 := by omega)
        all_goals
          go_roundg (k - 1)
          case measure => rw [HGG.out]; omega
          case rel => exact ⟨k - 1, _, rfl, by omega, vintX (by omega), rfl, by rw [app_size _ _ (by decide)]; omega, hid (hr.mono (by omega)), hid ((grown_allocs HG.out _).trans hg)⟩
      · have i1 : ¬ (0 : Int) < (k : Int) := by omega
        have i2 : ¬ (40 : Int) < (t.size : Int) := by omega
        go_wp2_with fail
        refine (odd_c _ _ _ _ HR.out (by omega) hn hn2).mono ?_
        rintro e w5 ⟨z, rfl, hr, hg⟩
        have HG5 := hid (HG.out.trans hg)
        clear hg
        cases z
        · go_wp2_with fail
          go_ret
          exact ⟨_, rfl, Nat.zero_le _, by omega, hr.mono (by omega), HG5.out⟩
        · go_wp2_with (go_at_call 27; refine (pick_s _ _ _ _ (hr.alloc _) (by omega) (by omega)).mono ?_; rintro e w6 ⟨v, rfl, hv0, hv1, hr2, hg⟩; obtain ⟨q0, q1⟩ := two_strs hg hr.lt; obtain rfl | rfl : v = 0 ∨ v = 1 := by omega)
          all_goals
            go_ret
            exact ⟨_, rfl, Nat.zero_le _, by rw [app_size _ _ (by decide)]; omega, hr2.mono (by omega), (grown_allocs HG5.out _).trans hg⟩
  · -- a rectangle
    go_wp2_with fail
    refine (pick_s _ _ _ _ HR.out (by omega) (by omega)).mono ?_
    rintro e w2 ⟨u1, rfl, hu0, hu1, hr, hg⟩
    have HR := hid hr
    have HG := hid (HG.out.trans hg)
    clear hr hg
    go_wp2_with fail
    refine (pick_s _ _ _ _ HR.out (by omega) (by omega)).mono ?_
    rintro e w3 ⟨u2, rfl, hu2, hu3, hr, hg⟩
    have HR := hid hr
    have HG := hid (HG.out.trans hg)
    clear hr hg
    go_wp2_with fail
    go_loopg [5, 9] 30 (fun gg s i wr => ∃ (k : Nat) (t : ByteArray), gg = 30 - k ∧ (k : Int) ≤ 2 * (1 + u1 + (1 + u2)) ∧ i = .int .i64 k ∧ s = .string t ∧ t.size = k ∧ Hid (RdS wr rb (b + 5)) ∧ Hid (w.grownBy wr (some rb)))
    case atStart => exact ⟨0, ⟨#[]⟩, rfl, by omega, rfl, rfl, rfl, hid (HR.out.mono (by omega)), HG⟩
    case round =>
      clear HR HG
      obtain ⟨k, t, hgg, hk, rfl, rfl, ht, HR, HG⟩ := hrel
      have HGG := hid hgg
      have HT := hid ht
      clear hgg ht
      have hts : t.size ≤ 24 := by have := HT.out; omega
      by_cases hlt : (k : Int) < 2 * (1 + u1 + (1 + u2))
      · go_wp2_with fail
        all_goals
          go_roundg (30 - (k + 1))
          case measure => rw [HGG.out]; omega
          case rel => exact ⟨k + 1, _, rfl, by omega, by go_num, rfl, by rw [app_size _ _ (by decide), HT.out], HR, HG⟩
      · have i2 : ¬ (40 : Int) < (t.size : Int) := by omega
        go_wp2_with fail
        refine (odd_c _ _ _ _ HR.out (by omega) hn hn2).mono ?_
        rintro e w5 ⟨z, rfl, hr, hg⟩
        have HG5 := hid (HG.out.trans hg)
        clear hg
        cases z
        · go_wp2_with fail
          go_ret
          exact ⟨_, rfl, Nat.zero_le _, by omega, hr.mono (by omega), HG5.out⟩
        · go_wp2_with (go_at_call 27; refine (pick_s _ _ _ _ (hr.alloc _) (by omega) (by omega)).mono ?_; rintro e w6 ⟨v, rfl, hv0, hv1, hr2, hg⟩; obtain ⟨q0, q1⟩ := two_strs hg hr.lt; obtain rfl | rfl : v = 0 ∨ v = 1 := by omega)
          all_goals
            go_ret
            exact ⟨_, rfl, Nat.zero_le _, by rw [app_size _ _ (by decide)]; omega, hr2.mono (by omega), (grown_allocs HG5.out _).trans hg⟩
  · -- a grown one
    go_wp2_with fail
    refine (l20Grown_c rb (b + 1) _ HR.out (by omega) (by omega)).mono ?_
    rintro e w2 ⟨t, rfl, ht1, ht2, hr, hg⟩
    have HR := hid hr
    have HG := hid (HG.out.trans hg)
    clear hr hg
    have i2 : ¬ (40 : Int) < (t.size : Int) := by omega
    go_wp2_with fail
    refine (odd_c _ _ _ _ HR.out (by omega) hn hn2).mono ?_
    rintro e w5 ⟨z, rfl, hr, hg⟩
    have HG5 := hid (HG.out.trans hg)
    clear hg
    cases z
    · go_wp2_with fail
      go_ret
      exact ⟨_, rfl, Nat.zero_le _, by omega, hr.mono (by omega), HG5.out⟩
    · go_wp2_with (go_at_call 27; refine (pick_s _ _ _ _ (hr.alloc _) (by omega) (by omega)).mono ?_; rintro e w6 ⟨v, rfl, hv0, hv1, hr2, hg⟩; obtain ⟨q0, q1⟩ := two_strs hg hr.lt; obtain rfl | rfl : v = 0 ∨ v = 1 := by omega)
      all_goals
        go_ret
        exact ⟨_, rfl, Nat.zero_le _, by rw [app_size _ _ (by decide)]; omega, hr2.mono (by omega), (grown_allocs HG5.out _).trans hg⟩
  · -- a half, and back in another order
    have f0 : (v == 0) = false := by rw [beq_eq_false_iff_ne]; omega
    have f1 : (v == 1) = false := by rw [beq_eq_false_iff_ne]; omega
    have f2 : (v == 2) = false := by rw [beq_eq_false_iff_ne]; omega
    clear hv hv0 hv1
    go_wp2_with fail
    refine (pick_s _ _ _ _ HR.out (by omega) (by omega)).mono ?_
    rintro e w2 ⟨u, rfl, hu0, hu1, hr, hg⟩
    have HR := hid hr
    have HG := hid (HG.out.trans hg)
    clear hr hg
    obtain ⟨m, rfl⟩ := Int.eq_ofNat_of_zero_le hu0
    go_wp2_with fail
    go_loopg [10, 11] (m + 1) (fun gg s i wr => ∃ (k : Nat) (t : ByteArray), gg = k ∧ i = .int .i64 k ∧ s = .string t ∧ t.size + k = m + 1 ∧ Hid (RdS wr rb (b + 15 - k)) ∧ Hid (w.grownBy wr (some rb)))
    case atStart => exact ⟨m + 1, ⟨#[]⟩, rfl, vintX (by omega), rfl, by show 0 + (m + 1) = m + 1; omega, hid (HR.out.mono (by omega)), HG⟩
    case round =>
      clear HR HG
      obtain ⟨k, t, hgg, rfl, rfl, ht, HR, HG⟩ := hrel
      have HGG := hid hgg
      clear hgg
      by_cases hlt : 0 < k
      · have i1 : (0 : Int) < (k : Int) := by omega
        go_wp2_with (go_at_call 27; refine (pick_s _ _ _ _ (HR.out.alloc _) (by omega) (by omega)).mono ?_; rintro e w4 ⟨v, rfl, hv0, hv1, hr, hg⟩; have hq := four_strs hg HR.out.lt; obtain ⟨q0, q1, q2, q3⟩ := hq; obtain rfl | rfl | rfl | rfl : v = 0 ∨ v = 1 ∨ v = 2 ∨ v = 3 := by omega)
        all_goals
          go_roundg (k - 1)
          case measure => rw [HGG.out]; omega
          case rel => exact ⟨k - 1, _, rfl, vintX (by omega), rfl, by rw [app_size _ _ (by decide)]; omega, hid (hr.mono (by omega)), hid ((grown_allocs HG.out _).trans hg)⟩
      · have i1 : ¬ (0 : Int) < (k : Int) := by omega
        have ht1 : 1 ≤ t.size := by omega
        have ht8 : t.size ≤ 8 := by omega
        go_wp2_with fail
        refine (pick_s _ _ _ _ HR.out (by omega) (by omega)).mono ?_
        rintro e w4 ⟨o, rfl, ho0, ho1, hr, hg⟩
        have HR := hid hr
        have HG := hid (HG.out.trans hg)
        clear hr hg ht hlt
        go_wp2_with fail
        go_loopg [5, 13] 20 (fun gg s i wr => ∃ (j : Nat) (r : ByteArray), gg = 20 - j ∧ j ≤ t.size ∧ i = .int .i64 j ∧ s = .string r ∧ r.size = t.size + j ∧ wr = w4)
        case atStart => exact ⟨0, t, rfl, by omega, rfl, rfl, rfl, rfl⟩
        case round =>
          obtain ⟨j, r, hgg2, hj, rfl, rfl, hrs, rfl⟩ := hrel
          have HGG2 := hid hgg2
          have HRS := hid hrs
          have hr16 : r.size ≤ 16 := by omega
          clear hgg2 hrs
          by_cases hlt2 : j < t.size
          · have j1 : (j : Int) < (t.size : Int) := by omega
            go_upto_region 13 with fail
            go_cut [14] (fun s wx => ∃ q : Nat, q < t.size ∧ s = .int .i64 q ∧ wx = wr)
            case first =>
              have tz : ((t.size : Int) == 0) = false := by rw [beq_eq_false_iff_ne]; omega
              have j0 : (0 : Int) ≤ (j : Int) := Int.natCast_nonneg _
              obtain rfl | rfl | rfl | rfl | rfl : o = 0 ∨ o = 1 ∨ o = 2 ∨ o = 3 ∨ o = 4 := by omega
              all_goals
                go_wp2_with fail
                go_meet
                exact mod_cut (by omega) ht1 rfl
            case rest =>
              obtain ⟨q, hq, rfl, rfl⟩ := hcut
              have q1 : (q : Int) < (t.size : Int) := by omega
              have q0 : (0 : Int) ≤ (q : Int) := Int.natCast_nonneg _
              have j0 : (0 : Int) ≤ (j : Int) := Int.natCast_nonneg _
              have oz : (2 * o + 1 == 0) = false := by rw [beq_eq_false_iff_ne]; omega
              have hk1 := lkB_le t[q]
              have hk2 := lkB_le t[j]
              obtain ⟨k1, k2⟩ := hk1
              obtain ⟨k3, k4⟩ := hk2
              have K1 := hid (fun w => l4Look_c t[q] w)
              have K2 := hid (fun w => l4Look_c t[j] w)
              generalize lkB t[q] = z1 at *
              generalize lkB t[j] = z2 at *
              have m1 := mod4_bd (x := z1 + 2) (by omega)
              have m2 := mod4_bd (x := z2 + 2) (by omega)
              have M1 := hid m1
              have M2 := hid m2
              clear m1 m2
              go_upto_region 16 with fail
              all_goals
                go_cut [15] (fun s wx => ∃ z : Int, s = .int .i64 z ∧ 0 ≤ z ∧ z < 4 ∧ wx = wc)
                case first =>
                  go_wp2_with (go_at_call 43; first | ((with_reducible refine (K1.out _).mono ?_); rintro e w7 ⟨rfl, rfl⟩) | ((with_reducible refine (K2.out _).mono ?_); rintro e w7 ⟨rfl, rfl⟩))
                  go_meet
                  first
                    | exact ⟨_, rfl, M1.out.1, M1.out.2, rfl⟩
                    | exact ⟨_, rfl, M2.out.1, M2.out.2, rfl⟩
                case rest =>
                  obtain ⟨z, rfl, hz0, hz1, rfl⟩ := hcut
                  obtain rfl | rfl | rfl | rfl : z = 0 ∨ z = 1 ∨ z = 2 ∨ z = 3 := by omega
                  all_goals
                    go_wp2_with fail
                    go_roundg (20 - (j + 1))
                    case measure => rw [HGG2.out]; omega
                    case rel => exact ⟨j + 1, _, rfl, by omega, by go_num, rfl, by rw [app_size _ _ (by decide), HRS.out]; omega, rfl⟩
          · have j1 : ¬ (j : Int) < (t.size : Int) := by omega
            have i2 : ¬ (40 : Int) < (r.size : Int) := by omega
            clear hlt2
            go_wp2_with fail
            refine (odd_c _ _ _ _ HR.out (by omega) hn hn2).mono ?_
            rintro e w5 ⟨z, rfl, hr, hg⟩
            have HG5 := hid (HG.out.trans hg)
            clear hg
            cases z
            · go_wp2_with fail
              go_ret
              exact ⟨_, rfl, Nat.zero_le _, by omega, hr.mono (by omega), HG5.out⟩
            · go_wp2_with (go_at_call 27; refine (pick_s _ _ _ _ (hr.alloc _) (by omega) (by omega)).mono ?_; rintro e w6 ⟨v, rfl, hv0, hv1, hr2, hg⟩; obtain ⟨q0, q1⟩ := two_strs hg hr.lt; obtain rfl | rfl : v = 0 ∨ v = 1 := by omega)
              all_goals
                go_ret
                exact ⟨_, rfl, Nat.zero_le _, by rw [app_size _ _ (by decide)]; omega, hr2.mono (by omega), (grown_allocs HG5.out _).trans hg⟩
end Go.Proofs.YtkfmppjljdhogaaDoor
