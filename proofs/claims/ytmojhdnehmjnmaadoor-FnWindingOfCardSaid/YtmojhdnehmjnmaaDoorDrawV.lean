/- Contract: the draw of FnWindingOf. -/
import Derived.Test.YtmojhdnehmjnmaaDoorDrawZ
namespace Go.Proofs.YtmojhdnehmjnmaaDoor
open Go.RowKit TW

theorem one_keep {W w4 : World} {B rb k : Nat} {a : Value} (hg : W.grownBy w4 (some rb)) (hr : rb < B) (q0 : W.cell? ⟨B, k, none⟩ = some a) : w4.cell? ⟨B, k, none⟩ = some a := by
  rw [hg.cell_far _ (World.block_lt_of_cell? _ _ q0) (by intro e; cases e; exact absurd hr (by simp))]
  exact q0
theorem add_at0 (b j : Nat) : (⟨b, 0, none⟩ : Addr).add j = ⟨b, j, none⟩ := by unfold Addr.add; split <;> simp_all
theorem three_at {W w4 : World} {rb k : Nat} {a b c x : Value} {t : TypeId} (hg : (W.alloc (.cells #[a, b, c] t)).grownBy w4 (some rb)) (hr : rb < W.heap.size) (hx : #[a, b, c][k]? = some x) :
    w4.cell? ⟨W.heap.size, k, none⟩ = some x := by
  have h := World.news_of_block (w := w4) (B := W.heap.size) (cs := #[a, b, c]) (t := t) (fr := (0, 0)) (by rw [hg.block _ (by simp) (by simp; omega)]; exact heap_alloc_new W _) k _ (by simpa using hx)
  rw [add_at0] at h
  exact h
theorem pkd {t r : ByteArray} (ht : t.size ≤ 41) (hr : r.size ≤ 41) {v : Int} (h0 : 0 ≤ v) (h1 : v < 5) :
    ∃ (q : Nat) (x : ByteArray), IntKind.i64.wrap (v.tdiv 2) = (q : Int) ∧ v / 2 = (q : Int) ∧ (0 : Int) ≤ (q : Int) ∧ (q : Int) < 3 ∧ #[Value.string t, .string r, .string ⟨#[101, 110, 119, 115, 101, 110, 119, 115]⟩][q]? = some (.string x) ∧ x.size ≤ 41 := by
  obtain rfl | rfl | rfl | rfl | rfl : v = 0 ∨ v = 1 ∨ v = 2 ∨ v = 3 ∨ v = 4 := by omega
  · exact ⟨0, t, by decide, by decide, by decide, by decide, rfl, ht⟩
  · exact ⟨0, t, by decide, by decide, by decide, by decide, rfl, ht⟩
  · exact ⟨1, r, by decide, by decide, by decide, by decide, rfl, hr⟩
  · exact ⟨1, r, by decide, by decide, by decide, by decide, rfl, hr⟩
  · exact ⟨2, _, by decide, by decide, by decide, by decide, rfl, by decide⟩
theorem bel {w w1 w2 : World} {rb : Nat} (hB : Below w.heap.size w w1) (hg : w1.grownBy w2 (some rb)) (hr : w.heap.size ≤ rb) : Below w.heap.size w w2 := hB.trans (below_of_grown hg hB.size hr)
theorem bel_d {w w1 : World} (hB : Below w.heap.size w w1) : Below w.heap.size w w1.drew := below_drewN hB 1
theorem bel_a {w w1 : World} (hB : Below w.heap.size w w1) (o : Obj) : Below w.heap.size w (w1.alloc o) := hB.alloc hB.size _

set_option maxRecDepth 100000 in
set_option maxHeartbeats 4000000 in
theorem drawWindingOf_c (a : Option Addr) (len cap : Nat) (zs : List Int) (w : World) (h : IsRow .u8 w a len cap zs) :
    Calls Tryd.prog 23 #[.slice a len cap] w (DrawnQ w) := by
  go_enter Tryd.func23, Tryd.ntmps23
  go_wp2_with fail
  refine (open_s _ _ _ _ _ h).mono ?_
  rintro e w1 ⟨rb, rfl, hrb, hrd, hb1⟩
  clear h
  have HR := hid hrd.drew
  have HB := hid (bel_d hb1)
  have HRB := hid hrb
  clear hrd hb1 hrb
  go_wp2_with fail
  go_region_with (first
    | (go_at_call 37
       refine (l20Walk_c rb 12 0 _ HR.out (by omega) (by omega) (by omega) (by omega)).mono ?_
       rintro e w2 ⟨t, rfl, ht1, ht2, hr2, hg2⟩
       have HB := hid (bel HB.out hg2 HRB.out)
       have HR := hid hr2
       clear hr2 hg2)
    | (go_at_call 49
       refine (l20Simple_c rb _ _ HR.out (by omega) (by omega)).mono ?_
       rintro e w3 ⟨r, rfl, hr1, hr2, hr3, hg3⟩
       have HB := hid (bel HB.out hg3 HRB.out)
       have HR := hid hr3
       clear hr3 hg3)
    | (go_at_call 50
       with_reducible refine (pick_s rb 5 _ _ (HR.out.alloc _) ?_ ?_).mono ?_
       · omega
       · omega
       rintro e w4 ⟨v, rfl, hv0, hv1, hr4, hg4⟩
       obtain ⟨q, x, hq, hq', hq0, hq3, hx, hxs⟩ := pkd ht2 hr2 hv0 hv1
       clear hv0 hv1
       have HBB := hid HR.out.lt
       have q1 := three_at hg4 HR.out.lt hx
       have HB := hid (bel (bel_a HB.out _) hg4 HRB.out)
       have HR := hid hr4
       clear hr4 hg4)
    | (go_at_call 50
       with_reducible refine (pick_s rb 5 _ _ HR.out ?_ ?_).mono ?_
       · omega
       · omega
       rintro e w4 ⟨v, rfl, hv0, hv1, hr4, hg4⟩
       obtain ⟨q, x, hq, hq', hq0, hq3, hx, hxs⟩ := pkd ht2 hr2 hv0 hv1
       clear hv0 hv1
       have HB := hid (bel HB.out hg4 HRB.out)
       have HR := hid hr4
       clear hr4 hg4)
    | (go_at_call 50
       with_reducible refine (pick_s rb 7 _ _ (HR.out.alloc _) ?_ ?_).mono ?_
       · omega
       · omega
       rintro e w4 ⟨v, rfl, hv0, hv1, hr4, hg4⟩
       have HBB := hid HR.out.lt
       have q1 := three_at hg4 HR.out.lt hx
       have HB := hid (bel (bel_a HB.out _) hg4 HRB.out)
       have HR := hid hr4
       clear hr4 hg4)
    | (go_at_call 50
       with_reducible refine (pick_s rb 7 _ _ HR.out ?_ ?_).mono ?_
       · omega
       · omega
       rintro e w4 ⟨v, rfl, hv0, hv1, hr4, hg4⟩
       (try (have q2 := one_keep hg4 HBB.out q1; clear q1; have q1 := q2; clear q2))
       have HB := hid (bel HB.out hg4 HRB.out)
       have HR := hid hr4
       clear hr4 hg4))
  clear HRB
  all_goals clear hq hq'
  all_goals (try go_wp2_with fail)
  all_goals go_ret3
  all_goals
    refine ⟨x, _, _, rfl, hxs, ?_, ?_⟩
    · first | omega | (rw [IntWalk.i64_in _ (by omega), IntWalk.i64_in _ (by omega)]; omega)
    · first | exact HB.out | exact bel_a HB.out _
end Go.Proofs.YtmojhdnehmjnmaaDoor
