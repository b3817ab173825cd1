/- Contracts: walked and l1Walk. -/
import Derived.Test.YtbeacmealippmaaDoorTurtle2
import Derived.Deep.RegionWith
namespace Go.Proofs.YtbeacmealippmaaDoor
open Go.RowKit

/-- A box of three numbers, not frozen. -/
def Box3 (B : Nat) (a b c : Value) (wr : World) : Prop :=
  wr.cell? ⟨B, 0, none⟩ = some a ∧ wr.cell? ⟨B, 1, none⟩ = some b ∧ wr.cell? ⟨B, 2, none⟩ = some c ∧
  wr.frozen? ⟨B, 0, none⟩ = false ∧ wr.frozen? ⟨B, 1, none⟩ = false ∧ wr.frozen? ⟨B, 2, none⟩ = false ∧ B < wr.heap.size
theorem Box3.behind {wr w1 : World} {B : Nat} {a b c : Value} (h : Box3 B a b c wr) (hb : Below wr.heap.size wr w1) : Box3 B a b c w1 := by
  obtain ⟨h0, h1, h2, h3, h4, h5, h6⟩ := h
  have hB : B < wr.heap.size := h6
  exact ⟨(hb.cell hB).trans h0, (hb.cell hB).trans h1, (hb.cell hB).trans h2, (hb.frozen hB).trans h3, (hb.frozen hB).trans h4, (hb.frozen hB).trans h5, Nat.lt_of_lt_of_le h6 hb.size⟩
theorem Box3.drew {wr : World} {B : Nat} {a b c : Value} (h : Box3 B a b c wr) : Box3 B a b c wr.drew := h.behind ((Below.refl _ _).drew)
theorem Box3.drewN {wr : World} {B : Nat} {a b c : Value} (h : Box3 B a b c wr) (n : Nat) : Box3 B a b c (wr.drewN n) := h.behind (below_drewN (Below.refl _ _) _)

/-- All three are written. -/
theorem Box3.set {wr : World} {B : Nat} {a b c : Value} (h : Box3 B a b c wr) (x y z : Value) : Box3 B x y z (((wr.setCell ⟨B, 0, none⟩ x).setCell ⟨B, 1, none⟩ y).setCell ⟨B, 2, none⟩ z) := by
  obtain ⟨h0, h1, h2, h3, h4, h5, h6⟩ := h
  have m0 : (wr.setCell ⟨B, 0, none⟩ x).cell? ⟨B, 1, none⟩ = some b := by rw [World.cell?_setCell_other _ _ _ _ (by simp)]; exact h1
  have n0 : (wr.setCell ⟨B, 0, none⟩ x).cell? ⟨B, 2, none⟩ = some c := by rw [World.cell?_setCell_other _ _ _ _ (by simp)]; exact h2
  have m1 : ((wr.setCell ⟨B, 0, none⟩ x).setCell ⟨B, 1, none⟩ y).cell? ⟨B, 2, none⟩ = some c := by rw [World.cell?_setCell_other _ _ _ _ (by simp)]; exact n0
  refine ⟨?_, ?_, ?_, ?_, ?_, ?_, ?_⟩
  · rw [World.cell?_setCell_other _ _ _ _ (by simp), World.cell?_setCell_other _ _ _ _ (by simp)]; exact World.cell?_setCell_same (w := wr) (a := ⟨B, 0, none⟩) (v := x) h0
  · rw [World.cell?_setCell_other _ _ _ _ (by simp)]; exact World.cell?_setCell_same (w := wr.setCell ⟨B, 0, none⟩ x) (a := ⟨B, 1, none⟩) (v := y) m0
  · exact World.cell?_setCell_same (w := (wr.setCell ⟨B, 0, none⟩ x).setCell ⟨B, 1, none⟩ y) (a := ⟨B, 2, none⟩) (v := z) m1
  · rw [World.frozen?_setCell, World.frozen?_setCell, World.frozen?_setCell]; exact h3
  · rw [World.frozen?_setCell, World.frozen?_setCell, World.frozen?_setCell]; exact h4
  · rw [World.frozen?_setCell, World.frozen?_setCell, World.frozen?_setCell]; exact h5
  · simpa using h6
/-- Another block is written. -/
theorem Box3.put {wr : World} {B : Nat} {a b c : Value} (h : Box3 B a b c wr) {p : Addr} (hp : p.block ≠ B) (v : Value) : Box3 B a b c (wr.setCell p v) := by
  obtain ⟨h0, h1, h2, h3, h4, h5, h6⟩ := h
  have ne : ∀ o, p ≠ ⟨B, o, none⟩ := fun o e => hp (by rw [e])
  refine ⟨?_, ?_, ?_, ?_, ?_, ?_, by simpa using h6⟩
  · rw [World.cell?_setCell_other _ _ _ _ (ne 0)]; exact h0
  · rw [World.cell?_setCell_other _ _ _ _ (ne 1)]; exact h1
  · rw [World.cell?_setCell_other _ _ _ _ (ne 2)]; exact h2
  · rw [World.frozen?_setCell]; exact h3
  · rw [World.frozen?_setCell]; exact h4
  · rw [World.frozen?_setCell]; exact h5

set_option maxHeartbeats 1000000 in
theorem walked_c (t : Int × Int × Int) (s : ByteArray) (ht : TIn 10000 t) (hs : s.size ≤ 300) (w : World) (hd : Dirs w) :
    Calls Tryd.prog 36 #[TV t, .string s] w fun e w' => e = .returned (TV (tw t s.data.toList)) ∧ Below w.heap.size w w' := by
  have HT := hid ht
  have HD := hid hd
  clear ht hd
  go_enter Tryd.func36, Tryd.ntmps36
  go_wp2_with fail
  go_loopw [5] (fun i wr => ∃ k : Nat, k ≤ s.size ∧ i = .int .i64 k ∧ Box3 w.heap.size (.int .i64 (tw t (s.data.toList.take k)).1) (.int .i64 (tw t (s.data.toList.take k)).2.1) (.int .i64 (tw t (s.data.toList.take k)).2.2) wr ∧ Box3 (w.heap.size + 1) (.int .i64 0) (.int .i64 0) (.int .i64 0) wr ∧ Below w.heap.size w wr) (fun i _ => s.size - (intOf i).toNat)
  case atStart =>
    refine ⟨0, Nat.zero_le _, rfl, ?_, ?_, by (repeat (first | exact Below.refl _ _ | refine Below.alloc ?_ (by simp <;> omega) _ | refine Below.setCell ?_ (by simp <;> omega) _ | refine Below.drew ?_ | refine below_drewN ?_ _))⟩
    · refine ⟨?_, ?_, ?_, ?_, ?_, ?_, ?_⟩ <;> simp [tw]; omega
    · refine ⟨?_, ?_, ?_, ?_, ?_, ?_, ?_⟩ <;> simp [tw]
  case round =>
    obtain ⟨k, hk, rfl, HB, HR, HL⟩ := hrel
    by_cases hlt : k < s.size
    · have HB' := hid HB
      obtain ⟨c0, c1, c2, f0, f1, f2, hz⟩ := HB
      have HRR := hid HR
      have HLL := hid HL
      have HK : Hid (TIn 1000000 (tw t (s.data.toList.take k))) := tw_in HT.out _ (by have := List.length_take_le k s.data.toList; omega)
      have HS := hid (tw_take t hlt)
      clear HR HL
      generalize hu : tw t (s.data.toList.take k) = u at *
      clear hu
      go_wp2_with fail
      go_region_with (go_at_call 41; refine (after_c u s[k] HK.out _ (HD.out.below HLL.out.drew)).mono ?_; rintro e w1 ⟨rfl, hb1⟩; have HB1 := hid hb1; obtain ⟨d0, d1, d2, g0, g1, g2, hz1⟩ := HB'.out.drew.behind hb1; clear hb1)
      all_goals
        go_wp2_with fail
        go_roundw
        case rel =>
          refine ⟨k + 1, by omega, by go_num, ?_, ?_, ?_⟩
          · rw [HS.out]; exact (HB'.out.drew.behind HB1.out).set _ _ _
          · exact (((HRR.out.drew.behind HB1.out).put (by simp) _).put (by simp) _).put (by simp) _
          · have hs1 := HLL.out.size
            exact (((HLL.out.drew.trans (HB1.out.mono (by simpa using hs1))).setCell (by simp) _).setCell (by simp) _).setCell (by simp) _
        case measure => simp [intOf]; omega
    · obtain rfl : k = s.size := by omega
      have hta : s.data.toList.take s.size = s.data.toList := take_all s
      rw [hta] at HB
      obtain ⟨u, hu⟩ : ∃ u, u = tw t s.data.toList := ⟨_, rfl⟩
      rw [← hu] at HB
      have HU := hid hu
      obtain ⟨c0, c1, c2, f0, f1, f2, hz⟩ := HB
      obtain ⟨d0, d1, d2, g0, g1, g2, hz1⟩ := HR
      have HLL := hid HL
      clear HL hta hu
      go_wp2_with fail
      refine bodyPost_ret (v := TV u) ?_ rfl ⟨by rw [HU.out], ((HLL.out.setCell (by simp) _).setCell (by simp) _).setCell (by simp) _⟩
      simp [results, Tryd.results36, go_sem, d0, d1, d2, hz1]
end Go.Proofs.YtbeacmealippmaaDoor
