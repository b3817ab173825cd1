/- Contracts: MovedOn of the reference (its size), l20Simple, and the draws of walks. -/
import Derived.Test.YtkfmppjljdhogaaDoorDrawX
import Derived.Test.YtkfmppjljdhogaaDoorL1In
namespace Go.Proofs.YtkfmppjljdhogaaDoor
open Go.RowKit TW

theorem moved_size (s : ByteArray) {m : Nat} (hm : m < s.size) : (s.extract m s.size ++ s.extract 0 m).size = s.size := by
  simp only [ByteArray.size_append, ByteArray.size_extract]; omega

set_option maxHeartbeats 2000000 in
theorem specMovedOn_z (s : ByteArray) (hs : s.size ≤ 1000) (k : Int) (hk : 0 ≤ k) (hk2 : k < s.size) (w : World) :
    Calls Tryd.prog 45 #[.string s, .int .i64 k] w fun e w' => ∃ r : ByteArray, e = .returned (.string r) ∧ r.size ≤ s.size ∧ Below w.heap.size w w' := by
  have HC := hid (fun w => specClosedOk_c s (by unfold maxLen; omega) w)
  obtain ⟨m, rfl⟩ := Int.eq_ofNat_of_zero_le hk
  have hm : m < s.size := by omega
  go_enter Tryd.func45, Tryd.ntmps45
  go_wp2_with fail
  refine (HC.out _).mono ?_
  rintro e w1 ⟨rfl, hb1⟩
  have HB1 := hid hb1
  clear hb1
  cases clL (lets s) with
  | false =>
    go_wp2_with fail
    go_ret
    exact ⟨_, rfl, Nat.zero_le _, HB1.out⟩
  | true =>
    have d1 : (0 : Int) ≤ (m : Int) := Int.natCast_nonneg _
    have d2 : (m : Int) ≤ (s.size : Int) - 1 := by omega
    have d3 : (m : Int) < (s.size : Int) := by omega
    have d4 : (m : Int) ≤ (s.size : Int) := by omega
    have HL : Hid (∀ w, Calls Tryd.prog 55 #[.int .i64 (m : Int), .int .i64 0, .int .i64 ((s.size : Int) - 1)] w fun e w' => e = .returned (.bool true) ∧ w = w') := hid (fun w => (l1In_c (m : Int) 0 ((s.size : Int) - 1) w).mono (by
      rintro e w' ⟨rfl, rfl⟩
      refine ⟨?_, rfl⟩
      rw [decide_eq_true d1, decide_eq_true d2]; rfl))
    go_wp2_with fail
    refine (HL.out _).mono ?_
    rintro e w2 ⟨rfl, rfl⟩
    go_wp2_with fail
    go_quiet (fail)
    go_wp2_with fail
    go_ret
    exact ⟨_, rfl, by rw [moved_size s hm]; exact Nat.le_refl _, below_drewN HB1.out _⟩

set_option maxHeartbeats 2000000 in
theorem l20Simple_c (rb : Nat) (b : Int) (w : World) (h : RdS w rb b) (hb0 : 0 ≤ b) (hb : b ≤ 80000) :
    Calls Tryd.prog 26 #[.pointer (some ⟨rb, 0, none⟩)] w (DrawnS w rb 0 41 (b + 50)) := by
  go_enter Tryd.func26, Tryd.ntmps26
  go_wp2_with fail
  refine (pick_s _ _ _ _ h (by omega) (by omega)).mono ?_
  rintro e w1 ⟨v, rfl, hv0, hv1, hr, hg⟩
  have HR := hid hr
  have HG := hid hg
  clear hr hg h
  by_cases hv : v = 0
  · subst hv
    go_wp2_with fail
    refine (l20Walk_c rb 9 (b + 1) _ HR.out (by omega) (by omega) (by omega) (by omega)).mono ?_
    rintro e w2 ⟨t, rfl, ht1, ht2, hr, hg⟩
    go_wp2_with fail
    go_ret
    exact ⟨t, rfl, ht1, ht2, hr.mono (by omega), HG.out.trans hg⟩
  · have f0 : (v == 0) = false := by rw [beq_eq_false_iff_ne]; exact hv
    clear hv
    go_wp2_with fail
    refine (l20Grown_c rb (b + 1) _ HR.out (by omega) (by omega)).mono ?_
    rintro e w2 ⟨t, rfl, ht1, ht2, hr, hg⟩
    have HR := hid hr
    have HG := hid (HG.out.trans hg)
    clear hr hg
    go_wp2_with fail
    refine (pick_s _ _ _ _ HR.out (by omega) (by omega)).mono ?_
    rintro e w3 ⟨u, rfl, hu0, hu1, hr, hg⟩
    have HR := hid hr
    have HG := hid (HG.out.trans hg)
    clear hr hg
    go_wp2_with fail
    refine (specMovedOn_z t (by omega) u hu0 hu1 _).mono ?_
    rintro e w4 ⟨r, rfl, hrs, hb4⟩
    go_wp2_with fail
    go_ret
    exact ⟨r, rfl, Nat.zero_le _, by omega, (HR.out.behind hb4).mono (by omega), grown_behind HG.out hb4⟩

/-- What a draw of a law's text leaves. -/
def DrawnT (w : World) (e : Ending) (w' : World) : Prop := ∃ s : ByteArray, e = .returned (.string s) ∧ s.size ≤ 41 ∧ Below w.heap.size w w'
theorem drawnT {w w1 w2 : World} {rb lo : Nat} {b : Int} {e : Ending} (h : DrawnS w1 rb lo 41 b e w2) (hb : Below w.heap.size w w1) (hr : w.heap.size ≤ rb) : DrawnT w e w2 := by
  obtain ⟨s, he, _, h2, _, h4⟩ := h
  exact ⟨s, he, h2, hb.trans (below_of_grown h4 hb.size hr)⟩

theorem three_strs {W w4 : World} {rb : Nat} {a b c : Value} {t : TypeId} (hg : (W.alloc (.cells #[a, b, c] t)).grownBy w4 (some rb)) (hr : rb < W.heap.size) :
    w4.cell? ⟨W.heap.size, 0, none⟩ = some a ∧ w4.cell? ⟨W.heap.size, 1, none⟩ = some b ∧ w4.cell? ⟨W.heap.size, 2, none⟩ = some c := by
  have hq := World.news_of_block (w := w4) (B := W.heap.size) (cs := #[a, b, c]) (t := t) (fr := (0, 0)) (by rw [hg.block _ (by simp) (by simp; omega)]; exact heap_alloc_new W _)
  exact ⟨hq 0 _ rfl, hq 1 _ rfl, hq 2 _ rfl⟩

set_option maxHeartbeats 2000000 in
theorem drawSquaresIn_c (a : Option Addr) (len cap : Nat) (zs : List Int) (w : World) (h : IsRow .u8 w a len cap zs) :
    Calls Tryd.prog 14 #[.slice a len cap] w (DrawnT w) := by
  go_enter Tryd.func14, Tryd.ntmps14
  go_wp2_with fail
  refine (open_s _ _ _ _ _ h).mono ?_
  rintro e w1 ⟨rb, rfl, hrb, hrd, hb1⟩
  clear h
  go_wp2_with fail
  refine (l20Simple_c rb 0 _ hrd (by omega) (by omega)).mono ?_
  intro e w2 hd
  have HD := hid (drawnT hd hb1 hrb)
  obtain ⟨s, rfl, _⟩ := hd
  go_wp2_with fail
  go_ret
  exact HD.out
set_option maxHeartbeats 2000000 in
theorem drawCrossingsIn_c (a : Option Addr) (len cap : Nat) (zs : List Int) (w : World) (h : IsRow .u8 w a len cap zs) :
    Calls Tryd.prog 18 #[.slice a len cap] w (DrawnT w) := by
  go_enter Tryd.func18, Tryd.ntmps18
  go_wp2_with fail
  refine (open_s _ _ _ _ _ h).mono ?_
  rintro e w1 ⟨rb, rfl, hrb, hrd, hb1⟩
  clear h
  go_wp2_with fail
  refine (l20Simple_c rb 0 _ hrd (by omega) (by omega)).mono ?_
  intro e w2 hd
  have HD := hid (drawnT hd hb1 hrb)
  obtain ⟨s, rfl, _⟩ := hd
  go_wp2_with fail
  go_ret
  exact HD.out

set_option maxHeartbeats 2000000 in
theorem drawAllWindings_c (a : Option Addr) (len cap : Nat) (zs : List Int) (w : World) (h : IsRow .u8 w a len cap zs) :
    Calls Tryd.prog 21 #[.slice a len cap] w (DrawnT w) := by
  go_enter Tryd.func21, Tryd.ntmps21
  go_wp2_with fail
  refine (open_s _ _ _ _ _ h).mono ?_
  rintro e w1 ⟨rb, rfl, hrb, hrd, hb1⟩
  clear h
  go_wp2_with fail
  refine (l20Walk_c rb 9 0 _ hrd (by omega) (by omega) (by omega) (by omega)).mono ?_
  rintro e w2 ⟨t, rfl, ht1, ht2, hr2, hg2⟩
  have HB := hid (hb1.trans (below_of_grown hg2 hb1.size hrb))
  have HR := hid hr2
  clear hr2 hg2 hrd hb1
  go_wp2_with fail
  refine (l20Simple_c rb _ _ HR.out (by omega) (by omega)).mono ?_
  rintro e w3 ⟨r, rfl, hr1, hr2, hr3, hg3⟩
  have HB := hid (HB.out.trans (below_of_grown hg3 HB.out.size hrb))
  have HR := hid hr3
  clear hr3 hg3
  go_wp2_with (go_at_call 27; refine (pick_s _ _ _ _ (HR.out.alloc _) (by omega) (by omega)).mono ?_; rintro e w4 ⟨v, rfl, hv0, hv1, hr4, hg4⟩; obtain ⟨q0, q1⟩ := two_strs hg4 HR.out.lt; obtain rfl | rfl : v = 0 ∨ v = 1 := by omega)
  all_goals
    go_ret
    refine ⟨_, rfl, by omega, ?_⟩
    have hs := HB.out.size
    exact (HB.out.alloc hs _).trans (below_of_grown hg4 (by simp; omega) hrb)

set_option maxHeartbeats 2000000 in
theorem drawMostWinding_c (a : Option Addr) (len cap : Nat) (zs : List Int) (w : World) (h : IsRow .u8 w a len cap zs) :
    Calls Tryd.prog 9 #[.slice a len cap] w (DrawnT w) := by
  go_enter Tryd.func9, Tryd.ntmps9
  go_wp2_with fail
  refine (open_s _ _ _ _ _ h).mono ?_
  rintro e w1 ⟨rb, rfl, hrb, hrd, hb1⟩
  clear h
  go_wp2_with fail
  refine (l20Walk_c rb 9 0 _ hrd (by omega) (by omega) (by omega) (by omega)).mono ?_
  rintro e w2 ⟨t, rfl, ht1, ht2, hr2, hg2⟩
  have HB := hid (hb1.trans (below_of_grown hg2 hb1.size hrb))
  have HR := hid hr2
  clear hr2 hg2 hrd hb1
  go_wp2_with fail
  refine (l20Simple_c rb _ _ HR.out (by omega) (by omega)).mono ?_
  rintro e w3 ⟨r, rfl, hr1, hr2, hr3, hg3⟩
  have HB := hid (HB.out.trans (below_of_grown hg3 HB.out.size hrb))
  have HR := hid hr3
  clear hr3 hg3
  go_wp2_with (go_at_call 27; refine (pick_s _ _ _ _ (HR.out.alloc _) (by omega) (by omega)).mono ?_; rintro e w4 ⟨v, rfl, hv0, hv1, hr4, hg4⟩; obtain ⟨q0, q1, q2⟩ := three_strs hg4 HR.out.lt; obtain rfl | rfl | rfl | rfl | rfl : v = 0 ∨ v = 1 ∨ v = 2 ∨ v = 3 ∨ v = 4 := by omega)
  all_goals
    go_ret
    refine ⟨_, rfl, by first | omega | decide, ?_⟩
    have hs := HB.out.size
    exact (HB.out.alloc hs _).trans (below_of_grown hg4 (by simp; omega) hrb)
end Go.Proofs.YtkfmppjljdhogaaDoor
