/- Contract: windingsOf: a map from squares to windings. -/
import Derived.Test.YtkfmppjljdhogaaDoorWkG
import Derived.Test.YtkfmppjljdhogaaDoorWkF
import Derived.Test.YtkfmppjljdhogaaDoorPlaceMap
import Derived.Test.YtkfmppjljdhogaaDoorEnt
namespace Go.Proofs.YtkfmppjljdhogaaDoor
open Go.RowKit TW
open Go.Maps (Keyed)

theorem arrPair : WideMaps.ArrKey Tryd.prog 38 3 2 := ⟨Tryd.underlying38, by kernel_rfl, by kernel_rfl, by kernel_rfl⟩
theorem lawPair : Keyed Tryd.prog 38 := Keyed.of_law arrPair.law
theorem keyPair {x y : Int} (h : Fit2 x y) : keyOf Tryd.prog 38 (.agg #[.int .i64 x, .int .i64 y]) = some (klOf x y) :=
  WideMaps.keyOf_pair arrPair Tryd.underlying3 ⟨Tryd.prog.types.size - 1, by kernel_rfl⟩ (fit_wf h).1 (fit_wf h).2
theorem zeroI (w : World) : (zeroValue 3).run Tryd.prog w = .ok (.int .i64 0) w := by kernel_rfl

/-- In the box of all squares that may be gone round. -/
def InBox (x y : Int) : Prop := -20 ≤ x ∧ x ≤ 20 ∧ -20 ≤ y ∧ y ≤ 20
theorem InBox.fit {x y : Int} (h : InBox x y) : Fit2 x y := by unfold InBox at h; exact ⟨⟨by omega, by omega⟩, by omega, by omega⟩
/-- Block b is a map of at most n entries that holds V, at squares of the box. -/
def WindD (D : DataW Unit) (V : Int → Int → Int) : Prop :=
  (∀ x y, Fit2 x y → D.atKey (klOf x y) (.lit (.int .i64 0)) = .lit (.int .i64 (V x y))) ∧ ∀ kl, Maps.has D kl = true → ∃ x y, InBox x y ∧ kl = klOf x y
theorem WindD.start : WindD (.map []) (fun _ _ => 0) := ⟨fun x y _ => rfl, fun kl h => by simp [Maps.has] at h⟩
theorem WindD.congr {D : DataW Unit} {V V' : Int → Int → Int} (h : WindD D V) (e : ∀ x y, V' x y = V x y) : WindD D V' := ⟨fun x y hf => by rw [h.1 x y hf, e], h.2⟩
theorem WindD.put {D : DataW Unit} {V V' : Int → Int → Int} {p q z : Int} (h : WindD D V) (hM : Go.Maps.IsMap D) (hb : InBox p q) (he : V' p q = z) (hs : ∀ x y, ¬ (x = p ∧ y = q) → V' x y = V x y) : WindD (D.put (klOf p q) (.lit (.int .i64 z))) V' := by
  refine ⟨fun x y hf => ?_, fun kl hk => ?_⟩
  · by_cases c : x = p ∧ y = q
    · obtain ⟨rfl, rfl⟩ := c
      rw [Maps.atKey_put_same hM (klOf_isKey hf), he]
    · rw [Maps.atKey_put_other (fun e => c (klOf_inj hf hb.fit e)), h.1 x y hf, hs x y c]
  · by_cases c : kl = klOf p q
    · exact ⟨p, q, hb, c⟩
    · rw [Maps.has_put_other c] at hk
      exact h.2 kl hk

theorem Ups.kept {B b : Nat} {w w1 : World} {v : Value} {us : List Upr} (h : Ups B w v us) (hg : w.grownBy w1 (some b)) (hb : b < B) : Ups B w1 v us := by
  obtain ⟨ad, cap, hv, hm, hn, h⟩ := h
  refine ⟨ad, cap, hv, hm, hn, fun h0 => ?_⟩
  obtain ⟨g, ha, hB, hl, hc⟩ := h h0
  have ne : ∀ o, some (⟨g, o, none⟩ : Addr).block ≠ some b := fun o e => by have := Option.some.inj e; simp at this; omega
  refine ⟨g, ha, hB, Nat.lt_of_lt_of_le hl hg.size, fun i hi => ?_⟩
  obtain ⟨q1, q2, q3⟩ := hc i hi
  exact ⟨hg.cell q1 (ne _), hg.cell q2 (ne _), hg.cell q3 (ne _)⟩

set_option maxHeartbeats 8000000 in
theorem windingsOf_c (s : ByteArray) (hcl : clL (lets s) = true) (w : World) (hd : Dirs w) :
    Calls Tryd.prog 29 #[.string s] w fun e w' => e = .returned (.map (some w.heap.size)) ∧ Hid (∃ D : DataW Unit, w'.ownsMap Tryd.prog 38 (plainElem Tryd.prog 3) w.heap.size 100000 D ∧ WindD D (wdL (lets s))) ∧ Below w.heap.size w w' := by
  have HD := hid hd
  have HC := hid hcl
  obtain ⟨h40, hall⟩ := cl_facts hcl
  have HA := hid hall
  clear hd hcl hall
  have hmm := @run_makeMap Tryd.prog
  go_enter Tryd.func29, Tryd.ntmps29
  go_wp2_with fail
  clear hmm
  have HO := hid (World.ownsMap_made (H := Unit) w Tryd.prog 38 (plainElem Tryd.prog 3))
  have HB0 : Hid (Below w.heap.size w (w.alloc (.map #[] 0))) := hid ((Below.refl _ _).alloc (Nat.le_refl _) _)
  have hz0 : (w.alloc (.map #[] 0)).heap.size = w.heap.size + 1 := by simp
  have HZ0 := hid hz0
  clear hz0
  generalize w.alloc (.map #[] 0) = W0 at *
  refine (boundsOf_c s (by omega) HA.out _ (HD.out.below HB0.out)).mono ?_
  rintro e w1 ⟨rfl, hb⟩
  have HB1 := hid (HB0.out.trans (hb.mono HB0.out.size))
  have HO := hid (HO.out.kept (World.grownBy_none_of hb) (by simp))
  have hz1 : w.heap.size < w1.heap.size := by have := hb.size; have := HZ0.out; omega
  clear hb HB0 HZ0
  have hlx : loT (PX (lets s)) (s.size + 1) = lox (lets s) := by unfold lox; rw [lets_len]
  rw [hlx]
  have HLX := hid (bounds_le HC.out).1
  have HUps : Hid (∀ i, i < (upL (lets s) s.size).length → lox (lets s) ≤ (upAt (upL (lets s) s.size) i).x ∧ (upAt (upL (lets s) s.size) i).x ≤ 20 ∧ -20 ≤ (upAt (upL (lets s) s.size) i).y ∧ (upAt (upL (lets s) s.size) i).y ≤ 20 ∧ -1 ≤ (upAt (upL (lets s) s.size) i).up ∧ (upAt (upL (lets s) s.size) i).up ≤ 1) := hid (fun i hi => by
    have h1 := upAt_le hi
    have h2 := bounds_le HC.out
    have h3 : i < (upL (lets s) (lets s).length).length := by rw [lets_len]; exact hi
    have h4 := up_west h3
    rw [lets_len] at h4
    omega)
  have HEnd : Hid (∀ a b, wpP (upL (lets s) s.size) (lox (lets s)) a b (upL (lets s) s.size).length = wdL (lets s) a b) := hid (fun a b => by have := wpP_all HC.out a b; rw [lets_len] at this; exact this)
  clear hlx
  generalize lox (lets s) = lo at *
  generalize loT (PY (lets s)) (s.size + 1) = ly at *
  generalize hiT (PX (lets s)) (s.size + 1) = hx at *
  generalize hiT (PY (lets s)) (s.size + 1) = hy at *
  go_wp2_with fail
  have HB2 : Hid (Below w.heap.size w ((w1.alloc (.cells #[.int .i64 lo, .int .i64 ly] 50)).alloc (.cells #[.int .i64 hx, .int .i64 hy] 50))) := hid ((HB1.out.alloc (by omega) _).alloc (by simp; omega) _)
  have HO := hid ((HO.out.alloc (.cells #[.int .i64 lo, .int .i64 ly] 50)).alloc (.cells #[.int .i64 hx, .int .i64 hy] 50))
  have cL : ((w1.alloc (.cells #[.int .i64 lo, .int .i64 ly] 50)).alloc (.cells #[.int .i64 hx, .int .i64 hy] 50)).cell? ⟨w1.heap.size, 0, none⟩ = some (.int .i64 lo) := ((Box2.made w1 (.int .i64 lo) (.int .i64 ly) 50).alloc _).1
  have hz2 : w1.heap.size + 2 = ((w1.alloc (.cells #[.int .i64 lo, .int .i64 ly] 50)).alloc (.cells #[.int .i64 hx, .int .i64 hy] 50)).heap.size := by simp
  have HZ2 := hid hz2
  clear hz2
  generalize ((w1.alloc (.cells #[.int .i64 lo, .int .i64 ly] 50)).alloc (.cells #[.int .i64 hx, .int .i64 hy] 50)) = W2 at *
  obtain ⟨L, hL⟩ : ∃ L, L = w1.heap.size := ⟨_, rfl⟩
  rw [← hL] at cL hz1 HZ2 ⊢
  clear hL HB1
  refine (uprightsOf_c s (by omega) HA.out _ (HD.out.below HB2.out)).mono ?_
  rintro e w3 ⟨v, rfl, hU, hb⟩
  have hU' := hU
  obtain ⟨ad, cap, rfl, _⟩ := hU'
  have HU := hid hU
  have cL := (hb.cell (p := ⟨L, 0, none⟩) (by have := HZ2.out; show L < _; omega)).trans cL
  have HO := hid (HO.out.kept (World.grownBy_none_of hb) (by simp))
  have HB3 := hid (HB2.out.trans (hb.mono HB2.out.size))
  have HZ3 : Hid (w.heap.size < L ∧ L < W2.heap.size ∧ L < w3.heap.size) := hid (by have := hb.size; have := HZ2.out; omega)
  rename_i hrest
  clear hb HB2 hU hrest
  have HLen := hid (upL_len (lets s) s.size)
  generalize upL (lets s) s.size = us at *
  generalize hn : us.length = n at *
  have HN := hid hn
  clear hn
  have HCL := hid cL
  clear cL hz1
  go_wp2_with fail
  go_loopg [18] 100 (fun gg i wr => ∃ (k m : Nat) (D : DataW Unit), gg = 100 - k ∧ k ≤ n ∧ i = .int .i64 k ∧ Hid (wr.cell? ⟨L, 0, none⟩ = some (.int .i64 lo) ∧ L < wr.heap.size) ∧ Hid (Ups W2.heap.size wr (.slice ad n cap) us) ∧ Hid (wr.ownsMap Tryd.prog 38 (plainElem Tryd.prog 3) w.heap.size m D) ∧ m ≤ 100 * k ∧ Hid (WindD D (fun a b => wpP us lo a b k)) ∧ Hid (Below w.heap.size w wr))
  case atStart => exact ⟨0, 0, .map [], rfl, Nat.zero_le _, rfl, hid ⟨HCL.out, HZ3.out.2.2⟩, HU, HO, Nat.zero_le _, hid WindD.start, HB3⟩
  case round =>
    clear HCL HU HO HB3
    obtain ⟨k, m, D, hgg, hk, rfl, HCL, HU, HO, hm, HW, HB⟩ := hrel
    have HGG := hid hgg
    clear hgg
    by_cases hlt : k < n
    · obtain ⟨ad', cap', e1, hview⟩ := HU.out
      have hview := hview.2.2
      have e2 : ad' = ad ∧ cap' = cap := by injection e1 with a b c; exact ⟨a.symm, c.symm⟩
      obtain ⟨rfl, rfl⟩ := e2
      clear e1
      obtain ⟨g, rfl, hgB, hg1, hcs⟩ := hview (by rw [HN.out]; omega)
      obtain ⟨q0, q1, q2⟩ := hcs k (by rw [HN.out]; exact hlt)
      have cL := HCL.out.1
      obtain ⟨u1, u2, u3, u4, u5, u6⟩ := HUps.out k hlt
      have HQs := hid (fun a b => wpQ_start us lo k a b)
      have HQe := hid (fun a b => wpQ_end us lo k a b)
      have HQ := hid (fun (x : Int) (hx : lo ≤ x) a b => wpQ_step (us := us) (lo := lo) (i := k) hx a b)
      have HQl := hid (fun a b x => wpQ_le (us := us) lo a b x (fun j hj => ⟨(HUps.out j (by rw [← HN.out]; exact hj)).2.2.2.2.1, (HUps.out j (by rw [← HN.out]; exact hj)).2.2.2.2.2⟩) (i := k) (by rw [HN.out]; exact hlt))
      have hbd := HLX.out
      have hnl := HLen.out
      clear hview hcs hgB
      have hlt' : (k : Int) < (n : Int) := by omega
      have k0 : (0 : Int) ≤ (k : Int) := Int.natCast_nonneg _
      generalize hu : upAt us k = u at *
      have HUU := hid hu
      clear hu
      obtain ⟨ux, uy, uu⟩ := u
      simp only at *
      have HU1 := hid (HU.out.behind ((Below.refl _ _).alloc (Nat.le_refl _) (.cells #[.int .i64 ux, .int .i64 uy, .int .i64 uu] 49)))
      have HO1 := hid (HO.out.alloc (.cells #[.int .i64 ux, .int .i64 uy, .int .i64 uu] 49))
      have HB1 := hid (HB.out.alloc HB.out.size (.cells #[.int .i64 ux, .int .i64 uy, .int .i64 uu] 49))
      have HCL1 : Hid ((wr.alloc (.cells #[.int .i64 ux, .int .i64 uy, .int .i64 uu] 49)).cell? ⟨L, 0, none⟩ = some (.int .i64 lo)) := hid ((World.cell?_alloc_lt _ _ _ HCL.out.2).trans cL)
      have HT : Hid ((wr.alloc (.cells #[.int .i64 ux, .int .i64 uy, .int .i64 uu] 49)).cell? ⟨wr.heap.size, 0, none⟩ = some (.int .i64 ux) ∧ (wr.alloc (.cells #[.int .i64 ux, .int .i64 uy, .int .i64 uu] 49)).cell? ⟨wr.heap.size, 1, none⟩ = some (.int .i64 uy) ∧ (wr.alloc (.cells #[.int .i64 ux, .int .i64 uy, .int .i64 uu] 49)).cell? ⟨wr.heap.size, 2, none⟩ = some (.int .i64 uu) ∧ wr.heap.size < (wr.alloc (.cells #[.int .i64 ux, .int .i64 uy, .int .i64 uu] 49)).heap.size) := hid (by simp)
      have HTB : Hid (w.heap.size < wr.heap.size ∧ L < wr.heap.size) := hid (by have := HCL.out.2; have := HZ3.out.1; omega)
      have hLw := HCL.out.2
      have cL1 := HCL1.out
      go_wp2_with fail
      clear cL1 hLw cL
      obtain ⟨t0, t1, t2, _⟩ := HT.out
      have cL := HCL1.out
      generalize wr.alloc (.cells #[.int .i64 ux, .int .i64 uy, .int .i64 uu] 49) = W4 at *
      generalize wr.heap.size = T at *
      clear q0 q1 q2 HU HO HB HCL
      clear t0 t1 t2 cL hg1
      have HUB := hid (⟨u1, u2, u3, u4, u5, u6⟩ : lo ≤ ux ∧ ux ≤ 20 ∧ -20 ≤ uy ∧ uy ≤ 20 ∧ -1 ≤ uu ∧ uu ≤ 1)
      have hk40 : k ≤ 40 := by omega
      go_loopg [8] 100 (fun gg x wx => ∃ (j m' : Nat) (X : Int) (D' : DataW Unit), gg = 100 - j ∧ Hid (X = lo + j) ∧ lo ≤ X ∧ X ≤ ux ∧ x = .int .i64 X ∧ Hid (wx.cell? ⟨L, 0, none⟩ = some (.int .i64 lo) ∧ L < wx.heap.size) ∧ Hid (wx.cell? ⟨T, 0, none⟩ = some (.int .i64 ux) ∧ wx.cell? ⟨T, 1, none⟩ = some (.int .i64 uy) ∧ wx.cell? ⟨T, 2, none⟩ = some (.int .i64 uu)) ∧ Hid (Ups W2.heap.size wx (.slice (some ⟨g, 0, none⟩) n cap') us) ∧ Hid (wx.ownsMap Tryd.prog 38 (plainElem Tryd.prog 3) w.heap.size m' D') ∧ m' ≤ 100 * k + j ∧ Hid (WindD D' (fun a b => wpQ us lo k X a b)) ∧ Hid (Below w.heap.size w wx))
      case atStart => exact ⟨0, m, lo, D, rfl, hid (by omega), Int.le_refl _, u1, rfl, hid ⟨HCL1.out, by have := HTB.out.2; have := HT.out.2.2.2; omega⟩, hid ⟨HT.out.1, HT.out.2.1, HT.out.2.2.1⟩, HU1, HO1, by omega, hid (HW.out.congr HQs.out), HB1⟩
      case round =>
        clear HCL1 HT HU1 HO1 HB1 HW HQs
        obtain ⟨j, m', X, D', hgg2, HX, hX1, hX2, rfl, HCL, HTc, HU, HO, hm', HW, HB⟩ := hrel
        have HGG2 := hid hgg2
        clear hgg2
        have hj : j ≤ 40 := by have := HX.out; omega
        obtain ⟨t0, t1, t2⟩ := HTc.out
        by_cases hlt2 : X < ux
        · have hbx : InBox X uy := ⟨by omega, by omega, u3, u4⟩
          obtain ⟨w5, c, st, E⟩ := entry_of (H := Unit) (t := 36) HO.out.drew lawPair Tryd.underlying36 Tryd.underlying3 zeroI (by unfold maxLen; omega) (keyPair hbx.fit)
          have hc : c = wpQ us lo k X X uy := by
            have h1 := HW.out.1 X uy hbx.fit
            rw [E.at_] at h1
            injection h1 with h1
            injection h1
          have hcl := HQl.out X uy X
          rw [← hc] at hcl
          obtain ⟨w6, hst, hown, hgr, hsz6⟩ := E.store w5 (c + uu) rfl (WalkArith.wf_i64 (by omega))
          have HO6 := hid hown
          have HW6 : Hid (WindD (D'.put (klOf X uy) (.lit (.int .i64 (c + uu)))) (fun a b => wpQ us lo k (X + 1) a b)) := hid (HW.out.put HO.out.isMap hbx (by show wpQ us lo k (X + 1) X uy = c + uu; rw [HQ.out X hX1, if_pos ⟨rfl, rfl⟩, ← hc]) (fun x y hxy => by show wpQ us lo k (X + 1) x y = _; rw [HQ.out X hX1, if_neg hxy]))
          have HG := hid (World.grownBy.trans E.grown hgr)
          have ne : ∀ b o, w.heap.size < b → some (⟨b, o, none⟩ : Addr).block ≠ some w.heap.size := fun b o hb e => by have := Option.some.inj e; simp at this; omega
          have p1 := E.grown.cell (a := ⟨T, 1, none⟩) t1 (ne _ _ HTB.out.1)
          have p2 := E.grown.cell (a := ⟨T, 2, none⟩) t2 (ne _ _ HTB.out.1)
          have r1 := hgr.cell (a := ⟨T, 1, none⟩) p1 (ne _ _ HTB.out.1)
          have r2 := hgr.cell (a := ⟨T, 2, none⟩) p2 (ne _ _ HTB.out.1)
          have r0 := HG.out.cell (a := ⟨T, 0, none⟩) t0 (ne _ _ HTB.out.1)
          have rL := HG.out.cell (a := ⟨L, 0, none⟩) HCL.out.1 (ne _ _ HZ3.out.1)
          have HR := hid (⟨r0, r1, r2, rL⟩ : w6.cell? ⟨T, 0, none⟩ = some (.int .i64 ux) ∧ w6.cell? ⟨T, 1, none⟩ = some (.int .i64 uy) ∧ w6.cell? ⟨T, 2, none⟩ = some (.int .i64 uu) ∧ w6.cell? ⟨L, 0, none⟩ = some (.int .i64 lo))
          have HS6 : Hid (L < w6.heap.size) := hid (by have h1 := HG.out.size; have h2 := HCL.out.2; simp only [World.size_drew] at h1; omega)
          have l1 := E.look
          have l2 := E.entry
          have l3 := E.look1
          have wsum : IntKind.i64.wrap (c + uu) = c + uu := IntWalk.i64_in _ (by omega)
          clear hc hown hgr hsz6 E ne r0 rL
          go_wp2_with fail
          go_region_held3 (fun w' => w'.cell? ⟨T, 1, none⟩ = some (.int .i64 uy) ∧ w'.cell? ⟨T, 2, none⟩ = some (.int .i64 uu))
            (first | exact ⟨t1, t2⟩ | exact ⟨p1, p2⟩ | exact ⟨r1, r2⟩)
            (fail)
          all_goals
            clear l1 l2 l3 hst t0 t1 t2 p1 p2 r1 r2 wsum
            go_wp2_with fail
            go_roundg (100 - (j + 1))
            case measure => rw [HGG2.out]; omega
            case rel =>
              have hBs := HB.out.size
              exact ⟨j + 1, m' + 1, X + 1, _, rfl, hid (by rw [HX.out]; omega), by omega, by omega, rfl, hid ⟨HR.out.2.2.2, HS6.out⟩, hid ⟨HR.out.1, HR.out.2.1, HR.out.2.2.1⟩, hid ((HU.out.behind ((Below.refl _ _).drew)).kept (b := w.heap.size) HG.out (by have := HZ3.out; omega)), HO6, by omega, HW6, hid ((HB.out.drew).grown HG.out hBs (fun k hk => by cases hk; exact Nat.le_refl _))⟩
        · have hXe : X = ux := by omega
          subst hXe
          have HW6 : Hid (WindD D' (fun a b => wpP us lo a b (k + 1))) := hid (HW.out.congr (fun a b => (HQe.out a b).symm))
          have hlt3 : ¬ X < X := by omega
          clear hlt2
          go_wp2_with fail
          go_roundg (100 - (k + 1))
          case measure => rw [HGG.out]; omega
          case rel => exact ⟨k + 1, m', D', rfl, by omega, by go_num, HCL, HU, HO, by omega, HW6, HB⟩
    · have HK : Hid (k = n) := hid (by omega)
      have hlt' : ¬ (k : Int) < (n : Int) := by omega
      have hln := HLen.out
      have hm2 : m ≤ 100000 := by omega
      clear hlt hk
      go_wp2_with fail
      go_ret
      exact ⟨rfl, hid ⟨D, HO.out.mono hm2, HW.out.congr (fun a b => by rw [HK.out]; exact (HEnd.out a b).symm)⟩, HB.out⟩
end Go.Proofs.YtkfmppjljdhogaaDoor
