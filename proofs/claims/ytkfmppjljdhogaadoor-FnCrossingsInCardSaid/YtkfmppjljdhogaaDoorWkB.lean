/- Contracts: a step, the end of a walk, ClosedOk. -/
import Derived.Test.YtkfmppjljdhogaaDoorWkA
import Derived.Test.YtkfmppjljdhogaaDoorTurtle
import Derived.Test.YtkfmppjljdhogaaDoorPairEq
import Derived.Deep.RegionWith
namespace Go.Proofs.YtkfmppjljdhogaaDoor
open Go.RowKit TW

abbrev PlaceV (x y : Int) : Value := .agg #[.int .i64 x, .int .i64 y]
theorem dx_look {b : UInt8} (h : isStep b = true) : dxI (lkB b) = dxB b ∧ dyI (lkB b) = dyB b ∧ 0 ≤ lkB b ∧ lkB b < 4 := by
  rcases isStep_cases h with rfl | rfl | rfl | rfl <;> decide

theorem stepped_c (x y d : Int) (hx : -1000000 ≤ x ∧ x ≤ 1000000) (hy : -1000000 ≤ y ∧ y ≤ 1000000) (hl : 0 ≤ d ∧ d < 4) (w : World) (hd : Dirs w) :
    Calls Tryd.prog 49 #[PlaceV x y, .int .i64 d] w fun e w' => e = .returned (PlaceV (x + dxI d) (y + dyI d)) ∧ Below w.heap.size w w' := by
  have hs := hd.size
  obtain ⟨c0, c1, c2, c3, c4, c5, c6, c7⟩ := hd.cells
  obtain ⟨hx1, hx2⟩ := hx
  obtain ⟨hy1, hy2⟩ := hy
  clear hd
  obtain rfl | rfl | rfl | rfl : d = 0 ∨ d = 1 ∨ d = 2 ∨ d = 3 := by omega
  all_goals
    go_enter Tryd.func49, Tryd.ntmps49
    go_wp2
    refine bodyPost_ret ?_ rfl ⟨rfl, by (repeat (first | exact Below.refl _ _ | refine Below.alloc ?_ (by simp <;> omega) _ | refine Below.setCell ?_ (by simp <;> omega) _ | refine Below.drew ?_ | refine below_drewN ?_ _))⟩
    simp [results, Tryd.results49, go_sem, dxI, dyI]
    try omega

/-- A box of two numbers, not frozen. -/
def Box2 (B : Nat) (a b : Value) (wr : World) : Prop :=
  wr.cell? ⟨B, 0, none⟩ = some a ∧ wr.cell? ⟨B, 1, none⟩ = some b ∧ wr.frozen? ⟨B, 0, none⟩ = false ∧ wr.frozen? ⟨B, 1, none⟩ = false ∧ B < wr.heap.size
theorem Box2.behind {wr w1 : World} {B : Nat} {a b : Value} (h : Box2 B a b wr) (hb : Below wr.heap.size wr w1) : Box2 B a b w1 := by
  obtain ⟨h0, h1, h3, h4, h6⟩ := h
  have hB : B < wr.heap.size := h6
  exact ⟨(hb.cell hB).trans h0, (hb.cell hB).trans h1, (hb.frozen hB).trans h3, (hb.frozen hB).trans h4, Nat.lt_of_lt_of_le h6 hb.size⟩
theorem Box2.drew {wr : World} {B : Nat} {a b : Value} (h : Box2 B a b wr) : Box2 B a b wr.drew := h.behind ((Below.refl _ _).drew)
theorem Box2.drewN {wr : World} {B : Nat} {a b : Value} (h : Box2 B a b wr) (n : Nat) : Box2 B a b (wr.drewN n) := h.behind (below_drewN (Below.refl _ _) _)
theorem Box2.set {wr : World} {B : Nat} {a b : Value} (h : Box2 B a b wr) (x y : Value) : Box2 B x y ((wr.setCell ⟨B, 0, none⟩ x).setCell ⟨B, 1, none⟩ y) := by
  obtain ⟨h0, h1, h3, h4, h6⟩ := h
  have m0 : (wr.setCell ⟨B, 0, none⟩ x).cell? ⟨B, 1, none⟩ = some b := by rw [World.cell?_setCell_other _ _ _ _ (by simp)]; exact h1
  refine ⟨?_, ?_, ?_, ?_, ?_⟩
  · rw [World.cell?_setCell_other _ _ _ _ (by simp)]; exact World.cell?_setCell_same (w := wr) (a := ⟨B, 0, none⟩) (v := x) h0
  · exact World.cell?_setCell_same (w := wr.setCell ⟨B, 0, none⟩ x) (a := ⟨B, 1, none⟩) (v := y) m0
  · rw [World.frozen?_setCell, World.frozen?_setCell]; exact h3
  · rw [World.frozen?_setCell, World.frozen?_setCell]; exact h4
  · simpa using h6
theorem Box2.put {wr : World} {B : Nat} {a b : Value} (h : Box2 B a b wr) {p : Addr} (hp : p.block ≠ B) (v : Value) : Box2 B a b (wr.setCell p v) := by
  obtain ⟨h0, h1, h3, h4, h6⟩ := h
  have ne : ∀ o, p ≠ ⟨B, o, none⟩ := fun o e => hp (by rw [e])
  refine ⟨?_, ?_, ?_, ?_, by simpa using h6⟩
  · rw [World.cell?_setCell_other _ _ _ _ (ne 0)]; exact h0
  · rw [World.cell?_setCell_other _ _ _ _ (ne 1)]; exact h1
  · rw [World.frozen?_setCell]; exact h3
  · rw [World.frozen?_setCell]; exact h4

set_option maxHeartbeats 1000000 in
theorem endOf_c (s : ByteArray) (hs : s.size ≤ 1000) (hok : (lets s).all isStep = true) (w : World) (hd : Dirs w) :
    Calls Tryd.prog 47 #[.string s] w fun e w' => e = .returned (PlaceV (PX (lets s) s.size) (PY (lets s) s.size)) ∧ Below w.heap.size w w' := by
  have HD := hid hd
  clear hd
  go_enter Tryd.func47, Tryd.ntmps47
  go_wp2_with fail
  have hal : ∀ k (h : k < s.size), isStep s[k] = true := fun k h => by
    rw [List.all_eq_true] at hok
    exact hok _ (by have := take_snoc s k h; exact List.mem_of_mem_take (i := k + 1) (by rw [this]; simp))
  have HA := hid hal
  clear hal
  go_loopw [4] (fun i wr => ∃ k : Nat, k ≤ s.size ∧ i = .int .i64 k ∧ Box2 (w.heap.size + 1) (.int .i64 (PX (lets s) k)) (.int .i64 (PY (lets s) k)) wr ∧ Box2 w.heap.size (.int .i64 0) (.int .i64 0) wr ∧ Below w.heap.size w wr) (fun i _ => s.size - (intOf i).toNat)
  case atStart =>
    refine ⟨0, Nat.zero_le _, rfl, ?_, ?_, by (repeat (first | exact Below.refl _ _ | refine Below.alloc ?_ (by simp <;> omega) _ | refine Below.setCell ?_ (by simp <;> omega) _))⟩
    · rw [PX_zero, PY_zero]; refine ⟨?_, ?_, ?_, ?_, ?_⟩ <;> simp
    · refine ⟨?_, ?_, ?_, ?_, ?_⟩ <;> simp; omega
  case round =>
    obtain ⟨k, hk, rfl, hB, hR, hL⟩ := hrel
    by_cases hlt : k < s.size
    · have HB := hid hB
      have HR := hid hR
      have HL := hid hL
      obtain ⟨c0, c1, f0, f1, hz⟩ := hB
      have hx := PX_le (lets s) k
      have hy := PY_le (lets s) k
      obtain ⟨hx0, hx1⟩ := hx
      obtain ⟨hy0, hy1⟩ := hy
      have HX := hid (PX_succ (lets s) k)
      have HY := hid (PY_succ (lets s) k)
      rw [at0_lets hlt] at HX HY
      have HS := hid (dx_look (HA.out k hlt))
      clear hR hL
      generalize PX (lets s) k = x at *
      generalize PY (lets s) k = y at *
      have HC1 := hid (fun w => directionOf_c s[k] w)
      have HC2 := hid (fun w hd => stepped_c x y (lkB s[k]) ⟨by omega, by omega⟩ ⟨by omega, by omega⟩ ⟨HS.out.2.2.1, HS.out.2.2.2⟩ w hd)
      go_wp2_with fail
      go_region_with (first
        | (go_at_call 50; refine (HC1.out _).mono ?_; rintro e w1 ⟨rfl, rfl⟩)
        | (go_at_call 49; refine (HC2.out _ (HD.out.below HL.out.drew)).mono ?_; rintro e w1 ⟨rfl, hb1⟩; have HB1 := hid hb1; obtain ⟨d0, d1, g0, g1, hz1⟩ := HB.out.drew.behind hb1; clear hb1))
      all_goals
        go_wp2_with fail
        go_roundw
        case rel =>
          refine ⟨k + 1, by omega, by go_num, ?_, ?_, ?_⟩
          · rw [HX.out, HY.out, ← HS.out.1, ← HS.out.2.1]; exact (HB.out.drew.behind HB1.out).set _ _
          · exact ((HR.out.drew.behind HB1.out).put (by simp) _).put (by simp) _
          · exact ((HL.out.drew.trans (HB1.out.mono (by simpa using HL.out.size))).setCell (by simp) _).setCell (by simp) _
        case measure => simp [intOf]; omega
    · obtain rfl : k = s.size := by omega
      obtain ⟨c0, c1, f0, f1, hz⟩ := hB
      obtain ⟨d0, d1, g0, g1, hz1⟩ := hR
      have HL := hid hL
      have hne : w.heap.size ≠ w.heap.size + 1 := by omega
      clear hL
      go_wp2_with fail
      refine bodyPost_ret (v := PlaceV (PX (lets s) s.size) (PY (lets s) s.size)) ?_ rfl ⟨rfl, (HL.out.setCell (by simp) _).setCell (by simp) _⟩
      simp [results, Tryd.results47, go_sem, d0, d1, hz1]

theorem cl_no {l : List UInt8} (h : wkL l = false) : clL l = false := by unfold clL; rw [h]; rfl
theorem cl_nil {l : List UInt8} (h : l.length = 0) : clL l = false := by unfold clL; rw [h]; simp
theorem cl_of {l : List UInt8} (h : wkL l = true) (h1 : 1 ≤ l.length) : clL l = (decide (PX l l.length = 0) && decide (PY l l.length = 0)) := by unfold clL; rw [h]; simp [h1]
theorem wk_all {l : List UInt8} (h : wkL l = true) : l.all isStep = true := by unfold wkL at h; simp only [Bool.and_eq_true] at h; exact h.2

theorem implClosedOk_c (s : ByteArray) (hs : s.size ≤ maxLen) (w : World) (hd : Dirs w) :
    Calls Tryd.prog 28 #[.string s] w fun e w' => e = .returned (.bool (clL (lets s))) ∧ Below w.heap.size w w' := by
  have HD := hid hd
  have HS := hid hs
  clear hd hs
  cases hok : wkL (lets s) with
  | false =>
    have HR := hid (cl_no hok)
    go_enter Tryd.func28, Tryd.ntmps28
    go_wp2_with (go_at_call 46; refine (implWalkOk_c _ HS.out _).mono ?_; rintro e w' ⟨rfl, rfl⟩)
    go_ret
    exact ⟨ret_bool HR.out.symm, Below.refl _ _⟩
  | true =>
    have hlen := wkL_len hok
    rw [lets_len] at hlen
    have HA := hid (wk_all hok)
    by_cases h0 : s.size = 0
    · have hemp : s = ByteArray.empty := by
        have h1 : s.data = #[] := Array.size_eq_zero_iff.1 h0
        apply ByteArray.ext; exact h1
      subst hemp
      have HR : Hid (clL (lets ByteArray.empty) = false) := cl_nil rfl
      clear h0 hlen
      go_enter Tryd.func28, Tryd.ntmps28
      go_wp2_with (go_at_call 46; refine (implWalkOk_c _ HS.out _).mono ?_; rintro e w' ⟨rfl, rfl⟩)
      go_ret
      exact ⟨ret_bool HR.out.symm, Below.refl _ _⟩
    · have HR := hid (cl_of hok (by rw [lets_len]; omega))
      rw [lets_len] at HR
      have he : s.toList.isEmpty = false := by
        rw [ByteArray.toList_eq]
        cases hl : s.data.toList with
        | nil =>
          exfalso
          have h1 : s.data.toList.length = 0 := by rw [hl]; rfl
          rw [Array.length_toList] at h1
          exact h0 h1
        | cons _ _ => rfl
      have heq := @placeEq
      go_enter Tryd.func28, Tryd.ntmps28
      go_wp2_with (first
        | (go_at_call 46; refine (implWalkOk_c _ HS.out _).mono ?_; rintro e w' ⟨rfl, rfl⟩)
        | (go_at_call 47; refine (endOf_c _ (by omega) HA.out _ HD.out).mono ?_; rintro e w' ⟨rfl, hb⟩))
      go_ret
      exact ⟨ret_bool (by rw [HR.out]; rfl), hb⟩
end Go.Proofs.YtkfmppjljdhogaaDoor
