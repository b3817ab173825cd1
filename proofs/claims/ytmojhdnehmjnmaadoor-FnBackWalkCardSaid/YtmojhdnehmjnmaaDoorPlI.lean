/- Contracts: PlacesOf of the program; sameInts, sameRows of the laws, at rows that are alike. -/
import Derived.Test.YtmojhdnehmjnmaaDoorPlR
import Derived.Test.YtmojhdnehmjnmaaDoorWkD
import Derived.Test.YtmojhdnehmjnmaaDoorBkW
namespace Go.Proofs.YtmojhdnehmjnmaaDoor
open Go.RowKit TW

theorem row_news2 (wr : World) (o : Obj) (cs : Array Value) (u : Value) (t t' : TypeId) : ∀ (j : Nat) (v : Value), [u][j]? = some v → (((wr.alloc o).alloc (.cells cs t)).alloc (.cells #[u] t')).cell? ((⟨wr.heap.size + 1 + 1, 0, none⟩ : Addr).add j) = some v := by
  have h := row_news (wr.alloc o) cs u t t'
  rw [World.size_alloc] at h
  exact h
theorem make_rows (w : World) (n : Nat) (hn : n ≤ 1000) : ∃ w1, (Instr.makeSlice 27 (.int .i64 0) (.int .i64 (n : Int))).run Tryd.prog w = .ok (.slice (some ⟨w.heap.size, 0, none⟩) 0 n) w1 ∧
    w1.ownsRow w.heap.size 30 1 (.slice (some ⟨w.heap.size, 0, none⟩) 0 n) 0 [] ∧ w.grownBy w1 none := by
  obtain ⟨i0, hi, hz0, hz1, hz2⟩ := info_parts infoIS
  have hrun := run_make (P := Tryd.prog) w 27 30 i0 _ Tryd.underlying27 hi hz0 .i64 .i64 0 (n : Int) (by omega) (by omega) (by rw [hz2]; omega) (by omega)
  rw [hz1] at hrun
  have e1 : ((n : Int)).toNat = n := by omega
  rw [e1] at hrun
  refine ⟨_, hrun, ⟨rfl, .inr ⟨w.heap.size, n, _, rfl, Nat.le_refl _, heap_alloc_new w _, by omega, by unfold maxLen; omega, size_madeCells _ _, by simp⟩⟩, World.grownBy_alloc _ _ _⟩

set_option maxHeartbeats 4000000 in
theorem implPlacesOf_c (s : ByteArray) (hs : s.size ≤ maxLen) (w : World) (hd : Dirs w) :
    Calls Tryd.prog 16 #[.string s] w fun e w' => ∃ v, e = .returned v ∧ Below w.heap.size w w' ∧ PlPost w' v (lets s) := by
  have HD := hid hd
  have HW := hid (fun w => implWalkOk_c s hs w)
  clear hd
  cases hok : wkL (lets s) with
  | false =>
    have HK := hid hok
    rw [hok] at HW
    clear hok hs
    go_enter Tryd.func16, Tryd.ntmps16
    go_wp2_with fail
    refine (HW.out _).mono ?_
    rintro e w1 ⟨rfl, rfl⟩
    have HB : Hid (Below w.heap.size w w) := hid (Below.refl _ _)
    go_wp2_with fail
    go_ret
    exact ⟨_, rfl, HB.out, fun h => (by rw [HK.out] at h; cases h), fun _ => ⟨_, _, rfl⟩⟩
  | true =>
    have HK := hid hok
    have h40 := wkL_len hok
    rw [lets_len] at h40
    rw [hok] at HW
    have HA := hid (wk_all hok)
    obtain ⟨i0, hi, hz0, hz1, hz2⟩ := info_parts infoIS
    clear hok hs
    go_enter Tryd.func16, Tryd.ntmps16
    go_wp2_with fail
    refine (HW.out _).mono ?_
    rintro e w1 ⟨rfl, rfl⟩
    have HB : Hid (Below w.heap.size w w) := hid (Below.refl _ _)
    go_wp2_with fail
    refine (placesOf_c s (by omega) HA.out _ (HD.out.below HB.out)).mono ?_
    rintro e w2 ⟨v, rfl, hp, hb⟩
    obtain ⟨g, cap, rfl, _, hg, hcap, hcap2, hcells⟩ := places_cells hp
    have HB2 := hid (HB.out.trans (hb.mono HB.out.size))
    have HCL := hid hcells
    have HG := hid hg
    clear hp hb HB hcells hg
    obtain ⟨n, hn⟩ : ∃ n : Nat, n = s.size + 1 := ⟨_, rfl⟩
    have HN := hid hn
    rw [← hn] at hcap HCL ⊢
    have hn41 : n ≤ 41 := by omega
    clear hn h40
    obtain ⟨w3, hmk, hown, hgr⟩ := make_rows w2 n (by omega)
    have HR0 : Hid (RowsI w2 w3 (.slice (some ⟨w2.heap.size, 0, none⟩) 0 n) 0 (lets s) []) := hid ⟨rfl, hown, (Below.refl _ _).grown hgr (Nat.le_refl _) (fun k hk => by cases hk), fun j u hj => by simp at hj⟩
    clear hown hgr
    go_wp2_with fail
    clear hmk
    go_loopg [4, 17] 100 (fun gg v i wr => ∃ (k m : Nat) (vs : List Value), gg = 100 - k ∧ k ≤ n ∧ i = .int .i64 k ∧ v = .slice (some ⟨w2.heap.size, 0, none⟩) m n ∧ Hid (m = k) ∧ Hid (RowsI w2 wr (.slice (some ⟨w2.heap.size, 0, none⟩) m n) m (lets s) vs))
    case atStart => exact ⟨0, 0, [], rfl, Nat.zero_le _, rfl, rfl, hid rfl, HR0⟩
    case round =>
      clear HR0
      obtain ⟨k, m, vs, hgg, hk, rfl, rfl, HMK, HR⟩ := hrel
      have HGG := hid hgg
      clear hgg
      by_cases hlt : k < n
      · obtain ⟨q1, q2⟩ := HCL.out k hlt
        have q1 := (HR.out.2.2.1.cell (p := ⟨g, k * 2, none⟩) HG.out).trans q1
        have q2 := (HR.out.2.2.1.cell (p := ⟨g, k * 2 + 1, none⟩) HG.out).trans q2
        have HP : Hid (RowsI w2 (wr.alloc (.cells #[.int .i64 (PX (lets s) k), .int .i64 (PY (lets s) k)] 52)) (.slice (some ⟨w2.heap.size, 0, none⟩) m n) m (lets s) vs) := hid (HR.out.behind ((Below.refl _ _).alloc (Nat.le_refl _) _))
        have HX : Hid (PX (lets s) m = PX (lets s) k) := hid (by rw [HMK.out])
        have HY : Hid (PY (lets s) m = PY (lets s) k) := hid (by rw [HMK.out])
        have hm3 : m + 1 ≤ n := by have := HMK.out; omega
        generalize PX (lets s) k = x at *
        generalize PY (lets s) k = y at *
        have k0 : (0 : Int) ≤ (k : Int) := Int.natCast_nonneg _
        have k1 : (k : Int) < (n : Int) := by omega
        go_wp2_with (at_builtin; refine wpList_append_fits _ rfl _ _ 27 rfl w2.heap.size 30 i0 1 Tryd.underlying27 hi hz1 w2.heap.size m n vs rfl ((HP.out.2.1.alloc _).alloc _) ⟨wr.heap.size + 1 + 1, 0, none⟩ 1 1 [.slice (some ⟨wr.heap.size + 1, 0, none⟩) 2 2] rfl rfl (row_news2 wr _ _ _ _ _) (by simp [Value.oneCell']) hm3 ?_; intro w' hown hgrow; have HO2 := hid hown; have HG2 := hid hgrow; clear hown hgrow)
        go_roundg (100 - (k + 1))
        case measure => rw [HGG.out]; omega
        case rel =>
          have hP := RowsI.push (W := wr.alloc (.cells #[.int .i64 x, .int .i64 y] 52)) (W' := w') (v' := .slice (some ⟨w2.heap.size, 0, none⟩) (m + 1) n) HP.out (by rw [World.size_alloc]; exact HO2.out) (by rw [World.size_alloc, HX.out, HY.out]; exact HG2.out)
          exact ⟨k + 1, m + 1, _, rfl, by omega, by go_num, rfl, hid (by rw [HMK.out]), hid hP⟩
      · have HKK : Hid (k = n) := hid (by omega)
        have hlt' : ¬ (k : Int) < (n : Int) := by omega
        clear hlt hk
        go_wp2_with fail
        go_ret
        have hv := HR.out.view (by have := HMK.out; have := HKK.out; have := HN.out; omega)
        have e : m = s.size + 1 := by rw [HMK.out, HKK.out, HN.out]
        subst e
        exact ⟨_, rfl, HB2.out.trans (HR.out.2.2.1.mono HB2.out.size), fun _ => (by rw [lets_len]; exact hv), fun h => (by rw [HK.out] at h; cases h)⟩

set_option maxHeartbeats 2000000 in
theorem sameInts_c (r1 r2 n : Nat) (f : Nat → Int) (hn : n ≤ 100) (w : World) (hr1 : r1 < w.heap.size) (hr2 : r2 < w.heap.size) (h1 : ∀ k, k < n → w.cell? ⟨r1, k, none⟩ = some (.int .i64 (f k))) (h2 : ∀ k, k < n → w.cell? ⟨r2, k, none⟩ = some (.int .i64 (f k))) :
    Calls Tryd.prog 45 #[.slice (some ⟨r1, 0, none⟩) n n, .slice (some ⟨r2, 0, none⟩) n n] w fun e w' => e = .returned (.bool true) ∧ Below w.heap.size w w' := by
  have H1 := hid h1
  have H2 := hid h2
  have R1 := hid hr1
  have R2 := hid hr2
  clear h1 h2 hr1 hr2
  go_enter Tryd.func45, Tryd.ntmps45
  go_wp2_with fail
  go_loopg [5] 200 (fun gg i wr => ∃ k : Nat, gg = 200 - k ∧ k ≤ n ∧ i = .int .i64 k ∧ Hid (Below w.heap.size w wr))
  case atStart => exact ⟨0, rfl, Nat.zero_le _, rfl, hid (Below.refl _ _)⟩
  case round =>
    obtain ⟨k, hgg, hk, rfl, HB⟩ := hrel
    have HGG := hid hgg
    clear hgg
    by_cases hlt : k < n
    · have q1 := (HB.out.cell (p := ⟨r1, k, none⟩) R1.out).trans (H1.out k hlt)
      have q2 := (HB.out.cell (p := ⟨r2, k, none⟩) R2.out).trans (H2.out k hlt)
      generalize f k = x at *
      have k0 : (0 : Int) ≤ (k : Int) := Int.natCast_nonneg _
      have k1 : (k : Int) < (n : Int) := by omega
      have k2 : ((k : Int)).toNat = k := by omega
      go_wp2_with fail
      go_quiet (fail)
      go_wp2_with fail
      go_roundg (200 - (k + 1))
      case measure => rw [HGG.out]; omega
      case rel => exact ⟨k + 1, rfl, by omega, by go_num, hid (below_drewN HB.out _)⟩
    · have hlt' : ¬ (k : Int) < (n : Int) := by omega
      clear hlt hk
      go_wp2_with fail
      go_ret
      exact ⟨rfl, HB.out⟩

set_option maxHeartbeats 4000000 in
theorem sameRows_c (v1 v2 : Value) (l : List UInt8) (n : Nat) (hn : n ≤ 100) (w : World) (h1 : RowsV w v1 l n) (h2 : RowsV w v2 l n) :
    Calls Tryd.prog 15 #[v1, v2] w fun e w' => e = .returned (.bool true) ∧ Below w.heap.size w w' := by
  obtain ⟨g1, c1, rfl, hle1, hm1, hg1, hr1⟩ := h1
  obtain ⟨g2, c2, rfl, hle2, hm2, hg2, hr2⟩ := h2
  have H1 := hid hr1
  have H2 := hid hr2
  have G1 := hid hg1
  have G2 := hid hg2
  clear hr1 hr2 hg1 hg2
  go_enter Tryd.func15, Tryd.ntmps15
  go_wp2_with fail
  go_loopg [5] 200 (fun gg i wr => ∃ k : Nat, gg = 200 - k ∧ k ≤ n ∧ i = .int .i64 k ∧ Hid (Below w.heap.size w wr))
  case atStart => exact ⟨0, rfl, Nat.zero_le _, rfl, hid (Below.refl _ _)⟩
  case round =>
    obtain ⟨k, hgg, hk, rfl, HB⟩ := hrel
    have HGG := hid hgg
    clear hgg
    by_cases hlt : k < n
    · obtain ⟨r1, e1, p1, p2, p3⟩ := H1.out k hlt
      obtain ⟨r2, e2, p4, p5, p6⟩ := H2.out k hlt
      have KS : Hid (∀ w', Below w.heap.size w w' → w'.cell? ⟨g1, k, none⟩ = some (.slice (some ⟨r1, 0, none⟩) 2 2) ∧ w'.cell? ⟨g2, k, none⟩ = some (.slice (some ⟨r2, 0, none⟩) 2 2)) := hid (fun w' hb => ⟨(hb.cell (p := ⟨g1, k, none⟩) G1.out).trans p1, (hb.cell (p := ⟨g2, k, none⟩) G2.out).trans p4⟩)
      have KC : Hid (∀ w', Below w.heap.size w w' → Calls Tryd.prog 45 #[.slice (some ⟨r1, 0, none⟩) 2 2, .slice (some ⟨r2, 0, none⟩) 2 2] w' fun e w'' => e = .returned (.bool true) ∧ Below w'.heap.size w' w'') := hid (fun w' hb =>
        sameInts_c r1 r2 2 (fun j => if j = 0 then PX l k else PY l k) (by omega) w' (Nat.lt_of_lt_of_le e1 hb.size) (Nat.lt_of_lt_of_le e2 hb.size)
          (fun j hj => by
            match j, hj with
            | 0, _ => exact (hb.cell (p := ⟨r1, 0, none⟩) e1).trans p2
            | 1, _ => exact (hb.cell (p := ⟨r1, 1, none⟩) e1).trans p3)
          (fun j hj => by
            match j, hj with
            | 0, _ => exact (hb.cell (p := ⟨r2, 0, none⟩) e2).trans p5
            | 1, _ => exact (hb.cell (p := ⟨r2, 1, none⟩) e2).trans p6))
      clear p1 p2 p3 p4 p5 p6 e1 e2
      obtain ⟨q1, q2⟩ := KS.out _ HB.out
      have HBc := hid HB.out.drew
      have k0 : (0 : Int) ≤ (k : Int) := Int.natCast_nonneg _
      have k1 : (k : Int) < (n : Int) := by omega
      have k2 : ((k : Int)).toNat = k := by omega
      go_wp2_with fail
      go_region_held3 (fun w' => w'.cell? ⟨g1, k, none⟩ = some (.slice (some ⟨r1, 0, none⟩) 2 2) ∧ w'.cell? ⟨g2, k, none⟩ = some (.slice (some ⟨r2, 0, none⟩) 2 2)) (first | exact KS.out _ HBc.out)
        (first
          | (go_at_call 45
             refine (KC.out _ ?_).mono ?_
             · exact HBc.out
             rintro e w6 ⟨rfl, hb⟩
             have HBc := hid (HBc.out.trans (hb.mono HBc.out.size))
             clear hb))
      go_wp2_with fail
      go_roundg (200 - (k + 1))
      case measure => rw [HGG.out]; omega
      case rel => exact ⟨k + 1, rfl, by omega, by go_num, HBc⟩
    · have hlt' : ¬ (k : Int) < (n : Int) := by omega
      clear hlt hk
      go_wp2_with fail
      go_ret
      exact ⟨rfl, HB.out⟩
end Go.Proofs.YtmojhdnehmjnmaaDoor
