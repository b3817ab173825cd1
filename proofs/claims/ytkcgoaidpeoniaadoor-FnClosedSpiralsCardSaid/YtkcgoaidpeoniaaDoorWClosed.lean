/- The walk of FnClosedSpirals. -/
import Derived.Test.YtkcgoaidpeoniaaDoorClosedQ
import Derived.Test.YtkcgoaidpeoniaaDoorClosed2
import Derived.Test.YtkcgoaidpeoniaaDoorWkdOf
import Derived.Test.YtkcgoaidpeoniaaDoorDrawPk
import Derived.Test.YtkcgoaidpeoniaaDoorSpWord2
import Derived.Test.YtkcgoaidpeoniaaDoorAlive
import Derived.Test.YtkcgoaidpeoniaaDoorTEq
import Derived.Deep.RegionWith
import Derived.Deep.RegionHeld3
namespace Go.Proofs.YtkcgoaidpeoniaaDoor
open Go.RowKit TW

theorem Owns.drewN {B : Nat} {w : World} {v : Value} {L : List Int} (h : Owns B w v L) (d : Nat) : Owns B (w.drewN d) v L := h.behind (below_drewN (Below.refl _ _) _)
theorem clL_le7 (o : Int) : (clL' o).length ≤ 600 := by
  unfold clL'
  split
  · rename_i h
    simp only [Bool.and_eq_true, decide_eq_true_eq] at h
    have h1 := clTo_le o.toNat (2 ^ o.toNat)
    have h2 := (pow_512 o.toNat (by omega)).1
    omega
  · exact Nat.zero_le _

theorem clL_asc (o : Int) : Asc (clL' o) := by
  unfold clL'
  split
  · exact clTo_asc _ _
  · intro k h; simp at h

set_option maxRecDepth 100000 in
set_option maxHeartbeats 4000000 in
theorem walk_FnClosedSpirals (a : Option Addr) (len cap : Nat) (zs : List Int) (w : World) (h : IsRow .u8 w a len cap zs) (hd : Dirs w) :
    Calls Tryd.prog 3 #[.slice a len cap] w fun e w' => e = .returned (.bool true) ∧ Below w.heap.size w w' := by
  have HD := hid hd
  clear hd
  by_cases hbig : 1048576 < len
  · go_enter Tryd.func3, Tryd.ntmps3
    go_wp2
    go_ret
    exact ⟨rfl, Below.refl _ _⟩
  · have heq := @turtleEq0
    go_enter Tryd.func3, Tryd.ntmps3
    go_wp2_with fail
    refine (drawClosedSpirals_c _ _ _ _ _ h).mono ?_
    rintro e w1 ⟨x, rfl, hx0, hx1, hb⟩
    have HB := hid hb
    have hl := clL_le7 x
    clear hb h
    go_wp2_with fail
    refine (implClosed_c x _ (HD.out.below HB.out)).mono ?_
    rintro e w2 ⟨v, rfl, hO, hb⟩
    have HO := hid hO
    have HB := hid (HB.out.trans (hb.mono HB.out.size))
    clear hb hO
    go_wp2_with fail
    refine (specClosed_c x _).mono ?_
    rintro e w3 ⟨u, rfl, hU, hb⟩
    have HO := hid (HO.out.behind hb)
    have HU := hid hU
    have HB := hid (HB.out.trans (hb.mono HB.out.size))
    clear hb hU
    go_wp2_with fail
    refine (sameInts_c _ _ v u (clL' x) _ HO.out HU.out hl).mono ?_
    rintro e w4 ⟨rfl, d, rfl⟩
    have HO := hid (HO.out.drewN d)
    have HB := hid (below_drewN HB.out d)
    clear HU
    go_wp2_with fail
    clear hx0 hx1
    obtain ⟨ad, cap2, rfl, hview⟩ := HO.out.view
    clear hview
    have HLC : Hid (∀ k, k < (clL' x).length → _) := hid (fun k hk => clL_at (x := x) (k := k) hk)
    have HASC := hid (clL_asc x)
    generalize hL : clL' x = L at *
    have HLL := hid hL
    clear hL
    go_loopw [5] (fun i wr => ∃ k : Nat, k ≤ L.length ∧ i = .int .i64 k ∧ Owns w1.heap.size wr (.slice ad L.length cap2) L ∧ Below w.heap.size w wr) (fun i _ => L.length - (intOf i).toNat)
    case atStart => exact ⟨0, Nat.zero_le _, rfl, HO.out, HB.out⟩
    case round =>
      clear HO HB
      obtain ⟨k, hk, rfl, hO, hB⟩ := hrel
      have HO := hid hO
      have HB := hid hB
      clear hO hB
      by_cases hlt : k < L.length
      · obtain ⟨n, j, rfl, hn1, hn9, hj, hz, hok, htw, hmem⟩ := HLC.out k hlt
        clear HLC
        have hlt' : (k : Int) < (L.length : Int) := by omega
        have k0 : (0 : Int) ≤ (k : Int) := Int.natCast_nonneg _
        obtain ⟨ad', cap3, e1, hview⟩ := HO.out.view
        obtain ⟨g, e2, e3, hg0, hg1, hcs⟩ := hview (by omega)
        cases e1
        subst e2
        have q1 := (hcs k hlt).1
        rw [hz] at q1
        have hf := spFacts hok
        have HW : Hid (wordOk (wordFor n j) = true) := hid hf.ok
        have HS : Hid ((wordFor n j).size ≤ 54) := hid hf.le
        have HT := hid htw
        have HM := hid hmem
        clear hcs hview hz hok htw hmem hf e3
        go_wp2_with fail
        refine (implSpiralWord_c _ _ _).mono ?_
        rintro e w5 ⟨rfl, hb⟩
        have q1 := (hb.cell (p := ⟨g, k, none⟩) hg1).trans q1
        have HO := hid (HO.out.behind hb)
        have hg1 : g < w5.heap.size := Nat.lt_of_lt_of_le hg1 hb.size
        have HB := hid (HB.out.trans (hb.mono HB.out.size))
        clear hb
        go_wp2_with fail
        refine (walkedOf_zero _ (by have := HS.out; omega) HW.out HT.out _ (HD.out.below HB.out)).mono ?_
        rintro e w6 ⟨rfl, hb⟩
        have q1 := (hb.cell (p := ⟨g, k, none⟩) hg1).trans q1
        have HO := hid (HO.out.behind hb)
        have hg1 : g < w6.heap.size := Nat.lt_of_lt_of_le hg1 hb.size
        have HB := hid (HB.out.trans (hb.mono HB.out.size))
        clear hb
        go_wp2_with fail
        have HO := hid (HO.out.behind ((Below.refl _ _).alloc (Nat.le_refl _) (.cells #[.int .i64 0, .int .i64 0, .int .i64 0] 28)))
        have hsz := HB.out.size
        have HB := hid (HB.out.alloc hsz (.cells #[.int .i64 0, .int .i64 0, .int .i64 0] 28))
        have q1 := (World.cell?_alloc_lt w6 (.cells #[.int .i64 0, .int .i64 0, .int .i64 0] 28) ⟨g, k, none⟩ hg1).trans q1
        have c0 : (w6.alloc (.cells #[.int .i64 0, .int .i64 0, .int .i64 0] 28)).cell? ⟨w6.heap.size, 0, none⟩ = some (.int .i64 0) := by simp
        have c1 : (w6.alloc (.cells #[.int .i64 0, .int .i64 0, .int .i64 0] 28)).cell? ⟨w6.heap.size, 1, none⟩ = some (.int .i64 0) := by simp
        have c2 : (w6.alloc (.cells #[.int .i64 0, .int .i64 0, .int .i64 0] 28)).cell? ⟨w6.heap.size, 2, none⟩ = some (.int .i64 0) := by simp
        have hgW : g < (w6.alloc (.cells #[.int .i64 0, .int .i64 0, .int .i64 0] 28)).heap.size := by simp; omega
        have htW : w6.heap.size < (w6.alloc (.cells #[.int .i64 0, .int .i64 0, .int .i64 0] 28)).heap.size := by simp
        generalize w6.alloc (.cells #[.int .i64 0, .int .i64 0, .int .i64 0] 28) = W at *
        generalize w6.heap.size = tb at *
        obtain ⟨hM, hM2⟩ := pow_512 n hn9
        have hw0 : IntKind.i64.wrap (2 ^ min n 64) = ((2 ^ n : Nat) : Int) := by
          have e1 : min n 64 = n := by omega
          rw [e1, hM2]
          exact IntWalk.i64_in _ (by generalize (2 ^ n : Nat) = q at *; omega)
        have HW0 := hid hw0
        clear hw0 hM2 hsz
        obtain ⟨M, hMM⟩ : ∃ M : Nat, M = 2 ^ n := ⟨_, rfl⟩
        rw [← hMM] at hM HW0 hj HM
        clear hMM
        have HI := hid (fun w (ho : Owns w1.heap.size w (.slice (some ⟨g, 0, none⟩) L.length cap2) L) => hasInt_c w1.heap.size (.slice (some ⟨g, 0, none⟩) L.length cap2) L ((M : Int) - 1 - j) w ho hl HM.out)
        have wq1 := IntWalk.i64_in ((M : Int) - 1) (by omega)
        have wq2 := IntWalk.i64_in ((M : Int) - 1 - j) (by omega)
        have hw := HW0.out
        clear HW0
        have KS : Hid (∀ w', Below W.heap.size W w' → w'.cell? ⟨g, k, none⟩ = some (.int .i64 j) ∧ w'.cell? ⟨tb, 0, none⟩ = some (.int .i64 0) ∧ w'.cell? ⟨tb, 1, none⟩ = some (.int .i64 0) ∧ w'.cell? ⟨tb, 2, none⟩ = some (.int .i64 0)) :=
          hid (fun w' hb => ⟨(hb.cell (p := ⟨g, k, none⟩) hgW).trans q1, (hb.cell (p := ⟨tb, 0, none⟩) htW).trans c0, (hb.cell (p := ⟨tb, 1, none⟩) htW).trans c1, (hb.cell (p := ⟨tb, 2, none⟩) htW).trans c2⟩)
        have HBc : Hid (Below W.heap.size W W.drew) := hid (Below.refl _ _).drew
        have HOd := hid (HO.out.drewN 1)
        clear hn1 hn9 hlt hg0 hgW htW HLL
        go_region_held3 (fun w' => w'.cell? ⟨g, k, none⟩ = some (.int .i64 j) ∧ w'.cell? ⟨tb, 0, none⟩ = some (.int .i64 0) ∧ w'.cell? ⟨tb, 1, none⟩ = some (.int .i64 0) ∧ w'.cell? ⟨tb, 2, none⟩ = some (.int .i64 0)) (first | exact KS.out _ HBc.out)
          (first
            | (go_at_call 10
               refine (HI.out _ ?_).mono ?_
               · exact HOd.out
               rintro e w7 ⟨rfl, rfl⟩))
        go_wp2_with fail
        go_roundw
        case rel => exact ⟨k + 1, by omega, by go_num, HOd.out, HB.out.drew⟩
        case measure => simp [intOf]; omega
      · have hlt' : ¬ (k : Int) < (L.length : Int) := by omega
        clear hk hlt
        go_wp2_with (first
          | (go_at_call 11
             refine (ascend_c w1.heap.size _ L _ HO.out hl HASC.out).mono ?_
             rintro e w8 ⟨rfl, d8, rfl⟩
             have HB := hid (below_drewN HB.out d8))
          | (go_at_call 12; refine (alive_c _).mono ?_; rintro e w' ⟨rfl, rfl⟩))
        go_ret
        exact ⟨rfl, HB.out⟩
end Go.Proofs.YtkcgoaidpeoniaaDoor
