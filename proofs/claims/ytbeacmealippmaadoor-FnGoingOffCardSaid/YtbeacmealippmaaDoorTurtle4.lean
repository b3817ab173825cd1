/- Contracts: l1Walk. -/
import Derived.Test.YtbeacmealippmaaDoorTurtle3
import Derived.Test.YtbeacmealippmaaDoorRegG
namespace Go.Proofs.YtbeacmealippmaaDoor
open Go.RowKit

/-- The turtle's box, the result's box, and what was there. -/
structure LW (w : World) (x y l : Int) (wr : World) : Prop where
  box : Box3 w.heap.size (.int .i64 x) (.int .i64 y) (.int .i64 l) wr
  res : Box3 (w.heap.size + 1) (.int .i64 0) (.int .i64 0) (.int .i64 0) wr
  bel : Below w.heap.size w wr
theorem LW.behind {w wr w1 : World} {x y l : Int} (h : LW w x y l wr) (hb : Below wr.heap.size wr w1) : LW w x y l w1 :=
  ⟨h.box.behind hb, h.res.behind hb, h.bel.trans (hb.mono h.bel.size)⟩
theorem LW.drew {w wr : World} {x y l : Int} (h : LW w x y l wr) : LW w x y l wr.drew := ⟨h.box.drew, h.res.drew, h.bel.drew⟩
/-- The last one is written. -/
theorem Box3.set2 {wr : World} {B : Nat} {a b c : Value} (h : Box3 B a b c wr) (z : Value) : Box3 B a b z (wr.setCell ⟨B, 2, none⟩ z) := by
  obtain ⟨h0, h1, h2, h3, h4, h5, h6⟩ := h
  refine ⟨?_, ?_, ?_, ?_, ?_, ?_, by simpa using h6⟩
  · rw [World.cell?_setCell_other _ _ _ _ (by simp)]; exact h0
  · rw [World.cell?_setCell_other _ _ _ _ (by simp)]; exact h1
  · exact World.cell?_setCell_same (w := wr) (a := ⟨B, 2, none⟩) (v := z) h2
  · rw [World.frozen?_setCell]; exact h3
  · rw [World.frozen?_setCell]; exact h4
  · rw [World.frozen?_setCell]; exact h5
theorem all_at {s : ByteArray} {f : UInt8 → Bool} (h : s.data.toList.all f = true) {k : Nat} (hk : k < s.size) : f s[k] = true := by
  rw [List.all_eq_true] at h
  exact h _ (by have := take_snoc s k hk; exact List.mem_of_mem_take (i := k + 1) (by rw [this]; simp))
/-- What the loads lean on. -/
def Cells3 (B : Nat) (x y l : Int) (w' : World) : Prop := w'.cell? ⟨B, 0, none⟩ = some (.int .i64 x) ∧ w'.cell? ⟨B, 1, none⟩ = some (.int .i64 y) ∧ w'.cell? ⟨B, 2, none⟩ = some (.int .i64 l)
theorem Cells3.of {w wr : World} {x y l : Int} (h : LW w x y l wr) : Cells3 w.heap.size x y l wr := ⟨h.box.1, h.box.2.1, h.box.2.2.1⟩

set_option maxHeartbeats 2000000 in
theorem l1Walk_c (t : Int × Int × Int) (s : ByteArray) (ht : TIn 10000 t) (hs : s.size ≤ 300) (hok : s.data.toList.all isLetter = true) (w : World) :
    Calls Tryd.prog 34 #[TV t, .string s] w fun e w' => e = .returned (TV (tw t s.data.toList)) ∧ Below w.heap.size w w' := by
  have HT := hid ht
  clear ht
  go_enter Tryd.func34, Tryd.ntmps34
  go_wp2_with fail
  go_loopw [5] (fun i wr => ∃ k : Nat, k ≤ s.size ∧ i = .int .i64 k ∧ LW w (tw t (s.data.toList.take k)).1 (tw t (s.data.toList.take k)).2.1 (tw t (s.data.toList.take k)).2.2 wr) (fun i _ => s.size - (intOf i).toNat)
  case atStart =>
    refine ⟨0, Nat.zero_le _, rfl, ?_, ?_, by (repeat (first | exact Below.refl _ _ | refine Below.alloc ?_ (by simp <;> omega) _ | refine Below.setCell ?_ (by simp <;> omega) _ | refine Below.drew ?_ | refine below_drewN ?_ _))⟩
    · refine ⟨?_, ?_, ?_, ?_, ?_, ?_, ?_⟩ <;> simp [tw]; omega
    · refine ⟨?_, ?_, ?_, ?_, ?_, ?_, ?_⟩ <;> simp [tw]
  case round =>
    obtain ⟨k, hk, rfl, HB⟩ := hrel
    by_cases hlt : k < s.size
    · have HK : Hid (TIn 1000000 (tw t (s.data.toList.take k))) := tw_in HT.out _ (by have := List.length_take_le k s.data.toList; omega)
      have HS := hid (tw_take t hlt)
      have HB := hid HB
      generalize tw t (s.data.toList.take k) = u at *
      obtain ⟨x, y, l⟩ := u
      have hl : 0 ≤ l ∧ l < 4 := HK.out.2.2.2.2
      have hx : -1000000 ≤ x ∧ x ≤ 1000000 := ⟨HK.out.1, HK.out.2.1⟩
      have hy : -1000000 ≤ y ∧ y ≤ 1000000 := ⟨HK.out.2.2.1, HK.out.2.2.2.1⟩
      obtain ⟨hl0, hl1⟩ := hl
      obtain ⟨hx0, hx1⟩ := hx
      obtain ⟨hy0, hy1⟩ := hy
      have hS : Cells3 w.heap.size x y l wr.drew := Cells3.of HB.out.drew
      cases h0 : ((s[k].toNat : Int) == 70) with
      | true =>
        have HE := hid (step_F (t := (x, y, l)) h0)
        have hdx := dxI_le l
        have hdy := dyI_le l
        have e1 := IntWalk.i64_in (x + dxI l) (by omega)
        have e2 := IntWalk.i64_in (y + dyI l) (by omega)
        go_wp2_with fail
        refine wp_region_G (S := Cells3 w.heap.size x y l) (t := 15) (by kernel_rfl) ?_
        refine G_take (i := 0) (v := ?_) rfl (by kernel_rfl) (by kernel_rfl) (by kernel_rfl) (by kernel_rfl) (fun _ _ _ h => h) (by rfl) ?_ (by assumption) ?_
        rotate_left
        · (intro w' hS; obtain ⟨k0, k1, k2⟩ := hS; go_simp; try with_reducible rfl)
        simp only [Act.put, List.setIfInBounds_toArray, List.set_cons_zero, List.set_cons_succ]
        refine G_take (i := 1) (v := ?_) rfl (by kernel_rfl) (by kernel_rfl) (by kernel_rfl) (by kernel_rfl) (fun _ _ _ h => h) (by rfl) ?_ (by assumption) ?_
        rotate_left
        · (intro w' hS; obtain ⟨k0, k1, k2⟩ := hS; go_simp; try with_reducible rfl)
        simp only [Act.put, List.setIfInBounds_toArray, List.set_cons_zero, List.set_cons_succ]
        refine G_take (i := 2) (v := ?_) rfl (by kernel_rfl) (by kernel_rfl) (by kernel_rfl) (by kernel_rfl) (fun _ _ _ h => h) (by rfl) ?_ (by assumption) ?_
        rotate_left
        · (intro w' hS; obtain ⟨k0, k1, k2⟩ := hS; go_simp; try with_reducible rfl)
        simp only [Act.put, List.setIfInBounds_toArray, List.set_cons_zero, List.set_cons_succ]
        refine G_take (i := 3) (v := ?_) rfl (by kernel_rfl) (by kernel_rfl) (by kernel_rfl) (by kernel_rfl) (fun _ _ _ h => h) (by rfl) ?_ (by assumption) ?_
        rotate_left
        · (intro w' hS; obtain ⟨k0, k1, k2⟩ := hS; go_simp; try with_reducible rfl)
        simp only [Act.put, List.setIfInBounds_toArray, List.set_cons_zero, List.set_cons_succ]
        refine G_take (i := 6) (v := ?_) rfl (by kernel_rfl) (by kernel_rfl) (by kernel_rfl) (by kernel_rfl) (fun _ _ _ h => h) (by rfl) ?_ (by assumption) ?_
        rotate_left
        · (intro w' hS; obtain ⟨k0, k1, k2⟩ := hS; go_simp; try with_reducible rfl)
        simp only [Act.put, List.setIfInBounds_toArray, List.set_cons_zero, List.set_cons_succ]
        refine G_take (i := 7) (v := ?_) rfl (by kernel_rfl) (by kernel_rfl) (by kernel_rfl) (by kernel_rfl) (fun _ _ _ h => h) (by rfl) ?_ (by assumption) ?_
        rotate_left
        · (intro w' hS; obtain ⟨k0, k1, k2⟩ := hS; go_simp; try with_reducible rfl)
        simp only [Act.put, List.setIfInBounds_toArray, List.set_cons_zero, List.set_cons_succ]
        refine G_take (i := 8) (v := ?_) rfl (by kernel_rfl) (by kernel_rfl) (by kernel_rfl) (by kernel_rfl) (fun _ _ _ h => h) (by rfl) ?_ (by assumption) ?_
        rotate_left
        · (intro w' hS; obtain ⟨k0, k1, k2⟩ := hS; go_simp; try with_reducible rfl)
        simp only [Act.put, List.setIfInBounds_toArray, List.set_cons_zero, List.set_cons_succ]
        refine G_take (i := 9) (v := ?_) rfl (by kernel_rfl) (by kernel_rfl) (by kernel_rfl) (by kernel_rfl) (fun _ _ _ h => h) (by rfl) ?_ (by assumption) ?_
        rotate_left
        · (intro w' hS; obtain ⟨k0, k1, k2⟩ := hS; go_simp; try with_reducible rfl)
        simp only [Act.put, List.setIfInBounds_toArray, List.set_cons_zero, List.set_cons_succ]
        refine G_take (i := 12) (v := ?_) rfl (by kernel_rfl) (by kernel_rfl) (by kernel_rfl) (by kernel_rfl) (fun _ _ _ h => h) (by rfl) ?_ (by assumption) ?_
        rotate_left
        · (intro w' hS; obtain ⟨k0, k1, k2⟩ := hS; go_simp; try with_reducible rfl)
        simp only [Act.put, List.setIfInBounds_toArray, List.set_cons_zero, List.set_cons_succ]
        refine G_take (i := 13) (v := ?_) rfl (by kernel_rfl) (by kernel_rfl) (by kernel_rfl) (by kernel_rfl) (fun _ _ _ h => h) (by rfl) ?_ (by assumption) ?_
        rotate_left
        · (intro w' hS; obtain ⟨k0, k1, k2⟩ := hS; go_simp; try with_reducible rfl)
        simp only [Act.put, List.setIfInBounds_toArray, List.set_cons_zero, List.set_cons_succ]
        refine G_ready (rs := [4]) (by kernel_rfl) (by simp) ?_
        refine GReady.cons rfl (by rfl) (fun K hK => ?_) GReady.nil
        go_simp
        refine (l1East_c l ⟨hl0, hl1⟩ _).mono ?_
        rintro e w1 ⟨rfl, hb1⟩
        have HB := hid (HB.out.drew.behind hb1)
        clear hb1 hS
        have hS := Cells3.of HB.out
        refine hK.out _ _ (fun _ => hS) ?_
        try simp only [Act.put, List.setIfInBounds_toArray, List.set_cons_zero, List.set_cons_succ]
        clear hK
        refine G_take (i := 5) (v := ?_) rfl (by kernel_rfl) (by kernel_rfl) (by kernel_rfl) (by kernel_rfl) (fun _ _ _ h => h) (by rfl) ?_ (by assumption) ?_
        rotate_left
        · (intro w' hS; obtain ⟨k0, k1, k2⟩ := hS; go_simp; try with_reducible rfl)
        simp only [Act.put, List.setIfInBounds_toArray, List.set_cons_zero, List.set_cons_succ]
        refine G_ready (rs := [10]) (by kernel_rfl) (by simp) ?_
        refine GReady.cons rfl (by rfl) (fun K hK => ?_) GReady.nil
        go_simp
        refine (l1North_c l ⟨hl0, hl1⟩ _).mono ?_
        rintro e w2 ⟨rfl, hb2⟩
        have HB := hid (HB.out.behind hb2)
        clear hb2 hS
        have hS := Cells3.of HB.out
        refine hK.out _ _ (fun _ => hS) ?_
        try simp only [Act.put, List.setIfInBounds_toArray, List.set_cons_zero, List.set_cons_succ]
        clear hK
        refine G_take (i := 11) (v := ?_) rfl (by kernel_rfl) (by kernel_rfl) (by kernel_rfl) (by kernel_rfl) (fun _ _ _ h => h) (by rfl) ?_ (by assumption) ?_
        rotate_left
        · (intro w' hS; obtain ⟨k0, k1, k2⟩ := hS; go_simp; try with_reducible rfl)
        simp only [Act.put, List.setIfInBounds_toArray, List.set_cons_zero, List.set_cons_succ]
        refine G_take (i := 14) (v := ?_) rfl (by kernel_rfl) (by kernel_rfl) (by kernel_rfl) (by kernel_rfl) (fun _ _ _ h => h) (by rfl) ?_ (by assumption) ?_
        rotate_left
        · (intro w' hS; obtain ⟨k0, k1, k2⟩ := hS; go_simp; try with_reducible rfl)
        simp only [Act.put, List.setIfInBounds_toArray, List.set_cons_zero, List.set_cons_succ]
        have hSc := hS
        obtain ⟨c0, c1, c2, f0, f1, f2, hz⟩ := HB.out.box
        refine G_ready (rs := [15]) (by kernel_rfl) (by simp) ?_
        refine GReady.cons rfl (by rfl) (fun K hK => ?_) GReady.nil
        go_simp
        refine hK.out _ _ (fun h => absurd rfl h) ?_
        try simp only [Act.put, List.setIfInBounds_toArray, List.set_cons_zero, List.set_cons_succ]
        clear hK
        refine G_done (by kernel_rfl) ?_ _
        go_wp2_with fail
        go_roundw
        case rel =>
          refine ⟨k + 1, by omega, by go_num, ?_⟩
          rw [HS.out, HE.out]
          exact ⟨HB.out.box.set _ _ _, ((HB.out.res.put (by simp) _).put (by simp) _).put (by simp) _, ((HB.out.bel.setCell (by simp) _).setCell (by simp) _).setCell (by simp) _⟩
        case measure => simp [intOf]; omega
      | false =>
        obtain ⟨c0, c1, c2, f0, f1, f2, hz⟩ := HB.out.box
        clear hS
        have hb0 : isLetter s[k] = true := all_at hok hlt
        cases h1 : ((s[k].toNat : Int) == 76) with
        | true =>
          have HE := hid (step_L (t := (x, y, l)) h0 h1)
          go_wp2_with fail
          go_roundw
          case rel =>
            refine ⟨k + 1, by omega, by go_num, ?_⟩
            rw [HS.out, HE.out]
            exact ⟨HB.out.box.set2 _, HB.out.res.put (by simp) _, HB.out.bel.setCell (by simp) _⟩
          case measure => simp [intOf]; omega
        | false =>
          have h2 : ((s[k].toNat : Int) == 82) = true := by unfold isLetter at hb0; rw [h0, h1] at hb0; simpa using hb0
          have HE := hid (step_R (t := (x, y, l)) h0 h1 h2)
          clear h2 hb0
          go_wp2_with fail
          go_roundw
          case rel =>
            refine ⟨k + 1, by omega, by go_num, ?_⟩
            rw [HS.out, HE.out]
            exact ⟨HB.out.box.set2 _, HB.out.res.put (by simp) _, HB.out.bel.setCell (by simp) _⟩
          case measure => simp [intOf]; omega
    · obtain rfl : k = s.size := by omega
      have hta : s.data.toList.take s.size = s.data.toList := take_all s
      obtain ⟨u, hu⟩ : ∃ u, u = tw t s.data.toList := ⟨_, rfl⟩
      rw [hta, ← hu] at HB
      have HU := hid hu
      obtain ⟨c0, c1, c2, f0, f1, f2, hz⟩ := HB.box
      obtain ⟨d0, d1, d2, g0, g1, g2, hz1⟩ := HB.res
      have HB := hid HB.bel
      clear hta hu
      go_wp2_with fail
      refine bodyPost_ret (v := TV u) ?_ rfl ⟨by rw [HU.out], ((HB.out.setCell (by simp) _).setCell (by simp) _).setCell (by simp) _⟩
      simp [results, Tryd.results34, go_sem, d0, d1, d2, hz1]
end Go.Proofs.YtbeacmealippmaaDoor
