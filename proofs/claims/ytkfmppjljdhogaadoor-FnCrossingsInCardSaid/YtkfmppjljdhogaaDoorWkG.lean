/- Contract: boundsOf: the least and the greatest numbers of a walk's places. -/
import Derived.Test.YtkfmppjljdhogaaDoorWkE
import Derived.Test.YtkfmppjljdhogaaDoorWkD
import Derived.Test.YtkfmppjljdhogaaDoorSqP
namespace Go.Proofs.YtkfmppjljdhogaaDoor
open Go.RowKit TW

/-- The cells of a walk's places. -/
def PlC (W : World) (g : Nat) (l : List UInt8) (m : Nat) : Prop := g < W.heap.size ∧ ∀ k, k < m → W.cell? ⟨g, k * 2, none⟩ = some (.int .i64 (PX l k)) ∧ W.cell? ⟨g, k * 2 + 1, none⟩ = some (.int .i64 (PY l k))
theorem PlC.behind {W W1 : World} {g m : Nat} {l : List UInt8} (h : PlC W g l m) (hb : Below W.heap.size W W1) : PlC W1 g l m :=
  ⟨Nat.lt_of_lt_of_le h.1 hb.size, fun k hk => ⟨(hb.cell (p := ⟨g, k * 2, none⟩) h.1).trans (h.2 k hk).1, (hb.cell (p := ⟨g, k * 2 + 1, none⟩) h.1).trans (h.2 k hk).2⟩⟩
theorem PlC.alloc {W : World} {g m : Nat} {l : List UInt8} (h : PlC W g l m) (o : Obj) : PlC (W.alloc o) g l m := h.behind ((Below.refl _ _).alloc (Nat.le_refl _) o)
theorem PlC.put {W : World} {g m : Nat} {l : List UInt8} (h : PlC W g l m) {p : Addr} (hp : p.block ≠ g) (v : Value) : PlC (W.setCell p v) g l m := by
  have ne : ∀ o, p ≠ ⟨g, o, none⟩ := fun o e => hp (by rw [e])
  refine ⟨by simpa using h.1, fun k hk => ⟨?_, ?_⟩⟩
  · rw [World.cell?_setCell_other _ _ _ _ (ne _)]; exact (h.2 k hk).1
  · rw [World.cell?_setCell_other _ _ _ _ (ne _)]; exact (h.2 k hk).2

set_option maxHeartbeats 4000000 in
theorem boundsOf_c (s : ByteArray) (hs : s.size ≤ 1000) (hok : (lets s).all isStep = true) (w : World) (hd : Dirs w) :
    Calls Tryd.prog 48 #[.string s] w fun e w' => e = .returned (.tuple #[PlaceV (loT (PX (lets s)) (s.size + 1)) (loT (PY (lets s)) (s.size + 1)), PlaceV (hiT (PX (lets s)) (s.size + 1)) (hiT (PY (lets s)) (s.size + 1))]) ∧ Below w.heap.size w w' := by
  have HD := hid hd
  clear hd
  go_enter Tryd.func48, Tryd.ntmps48
  go_wp2_with fail
  have HB0 : Hid (Below w.heap.size w ((((w.alloc (.cells #[.int .i64 0, .int .i64 0] 50)).alloc (.cells #[.int .i64 0, .int .i64 0] 50)).alloc (.cells #[.int .i64 0, .int .i64 0] 50)).alloc (.cells #[.int .i64 0, .int .i64 0] 50))) :=
    hid (((((Below.refl _ _).alloc (Nat.le_refl _) _).alloc (by simp) _).alloc (by simp; omega) _).alloc (by simp; omega) _)
  have HX0 := hid (Box2.alloc (Box2.alloc (Box2.alloc (Box2.made w (.int .i64 0) (.int .i64 0) 50) (.cells #[.int .i64 0, .int .i64 0] 50)) (.cells #[.int .i64 0, .int .i64 0] 50)) (.cells #[.int .i64 0, .int .i64 0] 50))
  have HX1 := hid (Box2.alloc (Box2.alloc (Box2.made (w.alloc (.cells #[.int .i64 0, .int .i64 0] 50)) (.int .i64 0) (.int .i64 0) 50) (.cells #[.int .i64 0, .int .i64 0] 50)) (.cells #[.int .i64 0, .int .i64 0] 50))
  have HX2 := hid (Box2.alloc (Box2.made ((w.alloc (.cells #[.int .i64 0, .int .i64 0] 50)).alloc (.cells #[.int .i64 0, .int .i64 0] 50)) (.int .i64 0) (.int .i64 0) 50) (.cells #[.int .i64 0, .int .i64 0] 50))
  have HX3 := hid (Box2.made (((w.alloc (.cells #[.int .i64 0, .int .i64 0] 50)).alloc (.cells #[.int .i64 0, .int .i64 0] 50)).alloc (.cells #[.int .i64 0, .int .i64 0] 50)) (.int .i64 0) (.int .i64 0) 50)
  simp only [World.size_alloc, World.size_drew] at HX0 HX1 HX2 HX3
  refine (placesOf_c s hs hok _ (HD.out.below HB0.out)).mono ?_
  rintro e w1 ⟨v, rfl, hp, hb⟩
  obtain ⟨g, cap, rfl, hB, hg, hcap, hcap2, hcells⟩ := places_cells hp
  have HP := hid (⟨hg, hcells⟩ : PlC w1 g (lets s) (s.size + 1))
  have HG := hid hB
  have HB1 := hid (HB0.out.trans (hb.mono HB0.out.size))
  have HX0 := hid (HX0.out.behind hb)
  have HX1 := hid (HX1.out.behind hb)
  have HX2 := hid (HX2.out.behind hb)
  have HX3 := hid (HX3.out.behind hb)
  simp only [World.size_alloc, World.size_drew] at HG
  clear hp hb hcells hB hg hok HB0
  obtain ⟨n, hn⟩ : ∃ n : Nat, n = s.size + 1 := ⟨_, rfl⟩
  rw [← hn] at hcap HP ⊢
  have hn2 : n ≤ 1001 := by omega
  have HN := hid hn
  clear hn
  go_wp2_with fail
  go_loopg [13] 2000 (fun gg i wr => ∃ k : Nat, gg = 2000 - k ∧ k ≤ n ∧ i = .int .i64 k ∧ Hid (PlC wr g (lets s) n) ∧ Hid (Below w.heap.size w wr) ∧ Hid (Box2 w.heap.size (.int .i64 0) (.int .i64 0) wr) ∧ Hid (Box2 (w.heap.size + 1) (.int .i64 0) (.int .i64 0) wr) ∧ Hid (Box2 (w.heap.size + 1 + 1) (.int .i64 (loT (PX (lets s)) k)) (.int .i64 (loT (PY (lets s)) k)) wr) ∧ Hid (Box2 (w.heap.size + 1 + 1 + 1) (.int .i64 (hiT (PX (lets s)) k)) (.int .i64 (hiT (PY (lets s)) k)) wr))
  case atStart => exact ⟨0, rfl, Nat.zero_le _, rfl, HP, HB1, HX0, HX1, HX2, HX3⟩
  case round =>
    clear HP HB1 HX0 HX1 HX2 HX3
    obtain ⟨k, hgg, hk, rfl, HP, HB, HX0, HX1, HX2, HX3⟩ := hrel
    have HGG := hid hgg
    clear hgg
    obtain ⟨a0, a1, a2, a3, a4⟩ := HX2.out
    obtain ⟨b0, b1, b2, b3, b4⟩ := HX3.out
    by_cases hlt : k < n
    · obtain ⟨q1, q2⟩ := HP.out.2 k hlt
      have hgr := HP.out.1
      have L1 := hid (loT_succ (PX (lets s)) k)
      have L2 := hid (loT_succ (PY (lets s)) k)
      have L3 := hid (hiT_succ (PX (lets s)) k)
      have L4 := hid (hiT_succ (PY (lets s)) k)
      generalize loT (PX (lets s)) k = lx at *
      generalize loT (PY (lets s)) k = ly at *
      generalize hiT (PX (lets s)) k = hx at *
      generalize hiT (PY (lets s)) k = hy at *
      generalize PX (lets s) k = px at *
      generalize PY (lets s) k = py at *
      have m1 : (if px < lx then px else lx) = min lx px := by omega
      have m2 : (if py < ly then py else ly) = min ly py := by omega
      have m3 : (if hx < px then px else hx) = max hx px := by omega
      have m4 : (if hy < py then py else hy) = max hy py := by omega
      have k0 : (0 : Int) ≤ (k : Int) := Int.natCast_nonneg _
      have k1 : (k : Int) < (n : Int) := by omega
      have n1 : w.heap.size + 1 + 1 ≠ w.heap.size + 1 + 1 + 1 := by omega
      have n2 : wr.heap.size ≠ w.heap.size + 1 + 1 := by omega
      have n3 : wr.heap.size ≠ w.heap.size + 1 + 1 + 1 := by omega
      have n4 : w.heap.size + 1 + 1 + 1 ≠ w.heap.size + 1 + 1 := by omega
      go_wp2_with fail
      go_roundg (2000 - (k + 1))
      case measure => rw [HGG.out]; omega
      case rel =>
        have hGG := HG.out
        have f2 : (⟨w.heap.size + 1 + 1, 0, none⟩ : Addr).block ≠ g := by show w.heap.size + 1 + 1 ≠ g; omega
        have f2' : (⟨w.heap.size + 1 + 1, 1, none⟩ : Addr).block ≠ g := f2
        have f3 : (⟨w.heap.size + 1 + 1 + 1, 0, none⟩ : Addr).block ≠ g := by show w.heap.size + 1 + 1 + 1 ≠ g; omega
        have f3' : (⟨w.heap.size + 1 + 1 + 1, 1, none⟩ : Addr).block ≠ g := f3
        have hsz := HB.out.size
        have g0 : (⟨w.heap.size + 1 + 1, 0, none⟩ : Addr).block ≠ w.heap.size := by show w.heap.size + 1 + 1 ≠ w.heap.size; omega
        have g0' : (⟨w.heap.size + 1 + 1, 1, none⟩ : Addr).block ≠ w.heap.size := g0
        have h0 : (⟨w.heap.size + 1 + 1 + 1, 0, none⟩ : Addr).block ≠ w.heap.size := by show w.heap.size + 1 + 1 + 1 ≠ w.heap.size; omega
        have h0' : (⟨w.heap.size + 1 + 1 + 1, 1, none⟩ : Addr).block ≠ w.heap.size := h0
        have g1 : (⟨w.heap.size + 1 + 1, 0, none⟩ : Addr).block ≠ w.heap.size + 1 := by show w.heap.size + 1 + 1 ≠ w.heap.size + 1; omega
        have g1' : (⟨w.heap.size + 1 + 1, 1, none⟩ : Addr).block ≠ w.heap.size + 1 := g1
        have h1 : (⟨w.heap.size + 1 + 1 + 1, 0, none⟩ : Addr).block ≠ w.heap.size + 1 := by show w.heap.size + 1 + 1 + 1 ≠ w.heap.size + 1; omega
        have h1' : (⟨w.heap.size + 1 + 1 + 1, 1, none⟩ : Addr).block ≠ w.heap.size + 1 := h1
        have h2 : (⟨w.heap.size + 1 + 1 + 1, 0, none⟩ : Addr).block ≠ w.heap.size + 1 + 1 := by show w.heap.size + 1 + 1 + 1 ≠ w.heap.size + 1 + 1; omega
        have h2' : (⟨w.heap.size + 1 + 1 + 1, 1, none⟩ : Addr).block ≠ w.heap.size + 1 + 1 := h2
        have g3 : (⟨w.heap.size + 1 + 1, 0, none⟩ : Addr).block ≠ w.heap.size + 1 + 1 + 1 := by show w.heap.size + 1 + 1 ≠ w.heap.size + 1 + 1 + 1; omega
        have g3' : (⟨w.heap.size + 1 + 1, 1, none⟩ : Addr).block ≠ w.heap.size + 1 + 1 + 1 := g3
        refine ⟨k + 1, rfl, by omega, by go_num, ?_, ?_, ?_, ?_, ?_, ?_⟩
        · exact hid (((((HP.out.put f2 _).put f2' _).put f3 _).put f3' _).alloc _)
        · exact hid (((((HB.out.setCell (by simp; omega) _).setCell (by simp; omega) _).setCell (by simp; omega) _).setCell (by simp; omega) _).alloc (by simpa using hsz) _)
        · exact hid (((((HX0.out.put g0 _).put g0' _).put h0 _).put h0' _).alloc _)
        · exact hid (((((HX1.out.put g1 _).put g1' _).put h1 _).put h1' _).alloc _)
        · rw [L1.out, L2.out]; exact hid ((((HX2.out.set _ _).put h2 _).put h2' _).alloc _)
        · rw [L3.out, L4.out]; exact hid ((((HX3.out.put g3 _).put g3' _).set _ _).alloc _)
    · obtain rfl : k = n := by omega
      clear hlt
      obtain ⟨d0, d1, d2, d3, d4⟩ := HX0.out
      obtain ⟨e0, e1, e2, e3, e4⟩ := HX1.out
      generalize Elx : loT (PX (lets s)) k = lx at *
      have Hlx := hid Elx
      clear Elx
      generalize Ely : loT (PY (lets s)) k = ly at *
      have Hly := hid Ely
      clear Ely
      generalize Ehx : hiT (PX (lets s)) k = hx at *
      have Hhx := hid Ehx
      clear Ehx
      generalize Ehy : hiT (PY (lets s)) k = hy at *
      have Hhy := hid Ehy
      clear Ehy
      have hlt' : ¬ (k : Int) < (k : Int) := by omega
      have n1 : w.heap.size ≠ w.heap.size + 1 + 1 + 1 := by omega
      have n2 : w.heap.size + 1 ≠ w.heap.size + 1 + 1 + 1 := by omega
      have n3 : w.heap.size ≠ w.heap.size + 1 + 1 := by omega
      have n4 : w.heap.size + 1 ≠ w.heap.size + 1 + 1 := by omega
      have n5 : w.heap.size ≠ w.heap.size + 1 := by omega
      go_wp2_with fail
      go_region
      all_goals
        go_wp2_with fail
        refine bodyPost_ret (v := .tuple #[PlaceV lx ly, PlaceV hx hy]) ?_ rfl ⟨by rw [← HN.out, Hlx.out, Hly.out, Hhx.out, Hhy.out], ?_⟩
        · simp [results, Tryd.results48, go_sem, d0, d1, d2, d3, d4, e0, e1, e2, e3, e4]
        · exact ((((HB.out.drew.setCell (by simp) _).setCell (by simp) _).setCell (by simp) _).setCell (by simp) _)
end Go.Proofs.YtkfmppjljdhogaaDoor
