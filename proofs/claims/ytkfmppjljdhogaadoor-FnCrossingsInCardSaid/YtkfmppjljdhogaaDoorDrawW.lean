/- Contracts: odd and l20Grown of the drawing reader: some text of four to forty letters. -/
import Derived.Test.YtkfmppjljdhogaaDoorPickS
import Derived.Test.YtkfmppjljdhogaaDoorSpC
import Derived.Deep.AppendLies
import Derived.Lib.SlBytesConst
namespace Go.Proofs.YtkfmppjljdhogaaDoor
open Go.RowKit TW

/-- What a draw of a text leaves. -/
def DrawnS (w : World) (rb : Nat) (lo hi : Nat) (b : Int) (e : Ending) (w' : World) : Prop :=
  ∃ s : ByteArray, e = .returned (.string s) ∧ lo ≤ s.size ∧ s.size ≤ hi ∧ RdS w' rb b ∧ w.grownBy w' (some rb)
theorem RdS.behind {w w' : World} {rb : Nat} {b : Int} (h : RdS w rb b) (hb : Below w.heap.size w w') : RdS w' rb b := h.kept (fun k hk => hb.block k (by have := h.lt; omega))
theorem grown_behind {w0 w w' : World} {rb : Nat} (h : w0.grownBy w (some rb)) (hb : Below w.heap.size w w') : w0.grownBy w' (some rb) := h.trans ((World.grownBy_none_of hb).but _)
theorem grown_allocs {w0 w : World} {rb : Nat} (h : w0.grownBy w (some rb)) (o : Obj) : w0.grownBy (w.alloc o) (some rb) := h.trans (World.grownBy_alloc _ _ _)

theorem odd_c (rb : Nat) (n b : Int) (w : World) (h : RdS w rb b) (hb : b ≤ 1000000) (hn : 1 ≤ n) (hn2 : n ≤ 1000) :
    Calls Tryd.prog 44 #[.pointer (some ⟨rb, 0, none⟩), .int .i64 n] w
      fun e w' => ∃ v : Bool, e = .returned (.bool v) ∧ RdS w' rb (b + 1) ∧ w.grownBy w' (some rb) := by
  go_enter Tryd.func44, Tryd.ntmps44
  go_wp2_with (go_at_call 27; refine (pick_s _ _ _ _ h hb hn).mono ?_; rintro e w2 ⟨u, rfl, hu0, hu1, hr2, hg2⟩)
  go_ret
  exact ⟨_, rfl, hr2, hg2⟩

theorem RdS.drewN {w : World} {rb : Nat} {b : Int} (h : RdS w rb b) (n : Nat) : RdS (w.drewN n) rb b := h.behind (below_drewN (Below.refl _ _) n)
theorem grown_drewN {w0 w : World} {rb : Nat} (h : w0.grownBy w (some rb)) (n : Nat) : w0.grownBy (w.drewN n) (some rb) := grown_behind h (below_drewN (Below.refl _ _) n)
theorem grown_size (t : ByteArray) (m : Nat) (A B : ByteArray) (hA : A.size = 1) (hB : B.size = 1) (hm : m < t.size) : (t.extract 0 m ++ A ++ t.extract m (m + 1) ++ B ++ t.extract (m + 1) t.size).size = t.size + 2 := by
  simp only [ByteArray.size_append, ByteArray.size_extract, hA, hB]
  omega
theorem mod4_bd {x : Int} (h : 0 ≤ x) : 0 ≤ x % 4 ∧ x % 4 < 4 := ⟨Int.emod_nonneg _ (by omega), Int.emod_lt_of_pos _ (by omega)⟩

set_option maxHeartbeats 8000000 in
theorem l20Grown_c (rb : Nat) (b : Int) (w : World) (h : RdS w rb b) (hb0 : 0 ≤ b) (hb : b ≤ 100000) :
    Calls Tryd.prog 42 #[.pointer (some ⟨rb, 0, none⟩)] w (DrawnS w rb 4 40 (b + 24)) := by
  have HR := hid h
  clear h
  go_enter Tryd.func42, Tryd.ntmps42
  go_wp2_with fail
  go_loopg [3, 4] 12 (fun gg s i wr => ∃ (k : Nat) (t : ByteArray), gg = 12 - k ∧ k ≤ 12 ∧ i = .int .i64 k ∧ s = .string t ∧ 4 ≤ t.size ∧ t.size ≤ 40 ∧ Hid (RdS wr rb (b + 2 * k)) ∧ Hid (w.grownBy wr (some rb)))
  case atStart => exact ⟨0, ⟨#[101, 110, 119, 115]⟩, rfl, by omega, rfl, rfl, by decide, by decide, hid (HR.out.mono (by omega)), hid (World.grownBy.refl _ _)⟩
  case round =>
    clear HR
    obtain ⟨k, t, hgg, hk, rfl, rfl, ht1, ht2, HR, HG⟩ := hrel
    have HGG := hid hgg
    clear hgg
    by_cases hlt : k < 12
    · by_cases hsz : t.size ≤ 38
      · have i1 : (k : Int) < 12 := by omega
        have i2 : (t.size : Int) + 2 ≤ 40 := by omega
        go_wp2_with fail
        refine (pick_s _ _ _ _ HR.out (by omega) (by omega)).mono ?_
        rintro e w2 ⟨u, rfl, hu0, hu1, hr2, hg2⟩
        have HR := hid hr2
        have HG := hid (HG.out.trans hg2)
        clear hr2 hg2
        obtain ⟨m, rfl⟩ := Int.eq_ofNat_of_zero_le hu0
        have hm : m < t.size := by omega
        have HL := hid (fun w => l4Look_c t[m] w)
        have hl := lkB_le t[m]
        obtain ⟨hl1, hl2⟩ := hl
        generalize lkB t[m] = q at *
        go_upto_region 7 with (go_at_call 43; refine (HL.out _).mono ?_; rintro e w3 ⟨rfl, rfl⟩)
        go_cut [7] (fun s wx => ∃ side : Int, s = .int .i64 side ∧ 1 ≤ side ∧ side ≤ 3 ∧ Hid (RdS wx rb (b + 2 * (k + 1))) ∧ Hid (w.grownBy wx (some rb)))
        case first =>
          go_wp2_with (go_at_call 27; refine (pick_s _ _ _ _ (HR.out.alloc _) (by omega) (by omega)).mono ?_; rintro e w4 ⟨v, rfl, hv0, hv1, hr, hg⟩; have hq := World.news_of_block (w := w4) (B := w2.heap.size) (cs := #[.int .i64 1, .int .i64 3]) (t := 3) (fr := (0, 0)) (by rw [hg.block _ (by simp) (by simp; have := HR.out.lt; omega)]; exact heap_alloc_new w2 _); have q0 : w4.cell? ⟨w2.heap.size, 0, none⟩ = some (.int .i64 1) := hq 0 _ rfl; have q1 : w4.cell? ⟨w2.heap.size, 1, none⟩ = some (.int .i64 3) := hq 1 _ rfl; clear hq; obtain rfl | rfl : v = 0 ∨ v = 1 := by omega)
          all_goals
            go_meet
            exact ⟨_, rfl, by omega, by omega, hid (hr.mono (by omega)), hid ((grown_allocs HG.out _).trans hg)⟩
        case rest =>
          clear HR HG HL
          obtain ⟨side, rfl, hs1, hs2, HR, HG⟩ := hcut
          have hqs : 0 ≤ q + side := by omega
          have hqe := mod4_bd hqs
          obtain ⟨hqe1, hqe2⟩ := hqe
          go_upto_region 9 with fail
          generalize (q + side) % 4 = o at *
          have i3 : (m : Int) < (t.size : Int) := by omega
          have i4 : (0 : Int) ≤ (m : Int) := Int.natCast_nonneg _
          obtain rfl | rfl | rfl | rfl : o = 0 ∨ o = 1 ∨ o = 2 ∨ o = 3 := by omega
          all_goals
            go_upto_region 10 with fail
            go_quiet (fail)
            go_upto_region 12 with fail
            generalize hN : t.extract 0 m ++ _ ++ t.extract m (m + 1) ++ _ ++ t.extract (m + 1) t.size = N
            have hNs : N.size = t.size + 2 := by rw [← hN]; exact grown_size t m _ _ (by decide) (by decide) hm
            clear hN
            refine (specSimpleOk_c N (by unfold maxLen; omega) _).mono ?_
            rintro e w5 ⟨rfl, hb5⟩
            have HR := hid ((HR.out.drewN _).behind hb5)
            have HG := hid (grown_behind (grown_drewN HG.out _) hb5)
            clear hb5
            cases smL (lets N)
            · go_wp2_with fail
              go_roundg (12 - (k + 1))
              case measure => rw [HGG.out]; omega
              case rel => exact ⟨k + 1, t, rfl, by omega, by go_num, rfl, ht1, ht2, hid (HR.out.mono (by omega)), HG⟩
            · go_wp2_with fail
              go_roundg (12 - (k + 1))
              case measure => rw [HGG.out]; omega
              case rel => exact ⟨k + 1, N, rfl, by omega, by go_num, rfl, by omega, by omega, hid (HR.out.mono (by omega)), HG⟩
      · have i1 : (k : Int) < 12 := by omega
        have i2 : ¬ (t.size : Int) + 2 ≤ 40 := by omega
        go_wp2_with fail
        go_ret
        exact ⟨t, rfl, ht1, ht2, HR.out.mono (by omega), HG.out⟩
    · have i1 : ¬ (k : Int) < 12 := by omega
      go_wp2_with fail
      go_ret
      exact ⟨t, rfl, ht1, ht2, HR.out.mono (by omega), HG.out⟩
end Go.Proofs.YtkfmppjljdhogaaDoor
