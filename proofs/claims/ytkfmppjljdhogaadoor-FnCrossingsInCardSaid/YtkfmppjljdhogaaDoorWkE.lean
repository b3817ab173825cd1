/- Contract: uprightsOf: the upright steps of a walk, one behind the other. -/
import Derived.Test.YtkfmppjljdhogaaDoorWkC
import Derived.Test.YtkfmppjljdhogaaDoorUpP
namespace Go.Proofs.YtkfmppjljdhogaaDoor
open Go.RowKit TW

theorem infoUpr : (Tryd.prog.info? 49).map (fun i => (i.zero, i.size, i.bytes)) = some (some (.agg #[.int .i64 0, .int .i64 0, .int .i64 0]), 3, 24) := by kernel_rfl

/-- The cells of upright steps. -/
def upc : List Upr → List Value
  | [] => []
  | u :: us => .int .i64 u.x :: .int .i64 u.y :: .int .i64 u.up :: upc us
theorem upc_len : ∀ us : List Upr, (upc us).length = us.length * 3
  | [] => rfl
  | u :: us => by simp only [upc, List.length_cons, upc_len us]; omega
theorem upc_append : ∀ us vs : List Upr, upc (us ++ vs) = upc us ++ upc vs
  | [], vs => rfl
  | u :: us, vs => by simp only [upc, List.cons_append, upc_append us vs]
theorem upc_get : ∀ (us : List Upr) (i : Nat), i < us.length → (upc us)[i * 3]? = some (.int .i64 (upAt us i).x) ∧ (upc us)[i * 3 + 1]? = some (.int .i64 (upAt us i).y) ∧ (upc us)[i * 3 + 2]? = some (.int .i64 (upAt us i).up)
  | [], i, h => by simp at h
  | u :: us, 0, h => ⟨rfl, rfl, rfl⟩
  | u :: us, i + 1, h => by
    have ih := upc_get us i (by simpa using h)
    have e : upAt (u :: us) (i + 1) = upAt us i := by unfold upAt; simp
    rw [e, show (i + 1) * 3 = i * 3 + 1 + 1 + 1 from by omega]
    exact ih

/-- A slice that reads as these upright steps; it lies in blocks from B on. -/
def Ups (B : Nat) (w : World) (v : Value) (us : List Upr) : Prop :=
  ∃ (ad : Option Addr) (cap : Nat), v = .slice ad us.length cap ∧ cap ≤ maxLen ∧ us.length ≤ cap ∧
    (0 < us.length → ∃ g, ad = some ⟨g, 0, none⟩ ∧ B ≤ g ∧ g < w.heap.size ∧ ∀ i, i < us.length → w.cell? ⟨g, i * 3, none⟩ = some (.int .i64 (upAt us i).x) ∧ w.cell? ⟨g, i * 3 + 1, none⟩ = some (.int .i64 (upAt us i).y) ∧ w.cell? ⟨g, i * 3 + 2, none⟩ = some (.int .i64 (upAt us i).up))
theorem ups_of {B : Nat} {w : World} {v : Value} {us : List Upr} (h : w.ownsRow B 49 3 v us.length (upc us)) : Ups B w v us := by
  have hl := h.lt
  have hc := fun j hj => World.ownsRow.cells h (g := j) hj
  rcases h.2 with ⟨hv, hx⟩ | ⟨g, cap, cur, hv, hb, hg, hn, hm, hs, ht⟩
  · refine ⟨none, 0, by rw [hv, hx], by unfold maxLen; omega, by omega, fun h0 => by omega⟩
  · refine ⟨some ⟨g, 0, none⟩, cap, hv, hm, hn, fun h0 => ⟨g, rfl, hb, (hl g (by rw [hv]; rfl)).2, fun i hi => ?_⟩⟩
    obtain ⟨e1, e2, e3⟩ := upc_get us i hi
    have hc := hc g (by rw [hv]; rfl)
    have q1 := hc _ _ e1
    have q2 := hc _ _ e2
    have q3 := hc _ _ e3
    have hadd : ∀ j, (⟨g, 0, none⟩ : Addr).add j = ⟨g, j, none⟩ := fun j => by unfold Addr.add; split <;> simp_all
    rw [hadd] at q1 q2 q3
    exact ⟨q1, q2, q3⟩
theorem Ups.behind {B : Nat} {w w1 : World} {v : Value} {us : List Upr} (h : Ups B w v us) (hb : Below w.heap.size w w1) : Ups B w1 v us := by
  obtain ⟨ad, cap, hv, hm, hn, h⟩ := h
  refine ⟨ad, cap, hv, hm, hn, fun h0 => ?_⟩
  obtain ⟨g, ha, hB, hg, hc⟩ := h h0
  refine ⟨g, ha, hB, Nat.lt_of_lt_of_le hg hb.size, fun i hi => ?_⟩
  obtain ⟨q1, q2, q3⟩ := hc i hi
  exact ⟨(hb.cell (p := ⟨g, i * 3, none⟩) hg).trans q1, (hb.cell (p := ⟨g, i * 3 + 1, none⟩) hg).trans q2, (hb.cell (p := ⟨g, i * 3 + 2, none⟩) hg).trans q3⟩

theorem Box2.grown {wr w1 : World} {B : Nat} {a b : Value} {row : Option Nat} (h : Box2 B a b wr) (hg : wr.grownBy w1 row) (hne : some B ≠ row) : Box2 B a b w1 := by
  obtain ⟨h0, h1, h3, h4, h6⟩ := h
  have hB := hg.block B h6 hne
  exact ⟨(World.cell?_of_block (a := ⟨B, 0, none⟩) hB).trans h0, (World.cell?_of_block (a := ⟨B, 1, none⟩) hB).trans h1, (World.frozen?_of_block (a := ⟨B, 0, none⟩) hB).trans h3, (World.frozen?_of_block (a := ⟨B, 1, none⟩) hB).trans h4, Nat.lt_of_lt_of_le h6 hg.size⟩
theorem Box2.made (w : World) (a b : Value) (t : TypeId) : Box2 w.heap.size a b (w.alloc (.cells #[a, b] t)) := by
  refine ⟨?_, ?_, ?_, ?_, ?_⟩ <;> simp

theorem Box2.alloc {wr : World} {B : Nat} {a b : Value} (h : Box2 B a b wr) (o : Obj) : Box2 B a b (wr.alloc o) := h.behind ((Below.refl _ _).alloc (Nat.le_refl _) o)

/-- One step: what becomes of the height. -/
theorem dy_three {b : UInt8} (h : isStep b = true) : (dyB b = 0) ∨ (dyB b = 1) ∨ (dyB b = -1) := by
  rcases isStep_cases h with rfl | rfl | rfl | rfl <;> decide

theorem own_none (v : Value) : v.ownBlock = none ∨ v.ownBlock ≠ none := by
  cases h : v.ownBlock with
  | none => exact Or.inl rfl
  | some _ => exact Or.inr (by simp)
/-- Where a round of uprightsOf stands when the next place is known. -/
def UpMid (w W : World) (T : Nat) (x y x' y' : Int) (v : Value) (n : Nat) (xs : List Value) : Prop :=
  Box2 T (.int .i64 x') (.int .i64 y') W ∧ T ≠ w.heap.size ∧ Box2 w.heap.size (.int .i64 x) (.int .i64 y) W ∧ W.ownsRow (w.heap.size + 1) 49 3 v n xs ∧ Below w.heap.size w W ∧ ∀ k, v.ownBlock = some k → w.heap.size + 1 ≤ k ∧ k ≠ T
theorem upMid_after {w wr w1 : World} {x y x' y' : Int} {v : Value} {n : Nat} {xs : List Value} (hB : Box2 w.heap.size (.int .i64 x) (.int .i64 y) wr) (hO : wr.ownsRow (w.heap.size + 1) 49 3 v n xs) (hL : Below w.heap.size w wr) (hb : Below wr.drew.heap.size wr.drew w1) (t : TypeId) :
    UpMid w (w1.alloc (.cells #[.int .i64 x', .int .i64 y'] t)) w1.heap.size x y x' y' v n xs := by
  have hs : wr.heap.size ≤ w1.heap.size := hb.size
  have h6 : w.heap.size < wr.heap.size := hB.2.2.2.2
  have hL1 : Below w.heap.size w w1 := hL.drew.trans (hb.mono (by have := hL.size; exact this))
  refine ⟨Box2.made _ _ _ _, by omega, ((hB.drew).behind hb).alloc _, ((hO.drew).kept (World.grownBy_none_of hb) (own_none v)).alloc _, hL1.alloc (by omega) _, fun k hk => ?_⟩
  have := hO.lt k hk
  omega
theorem upMid_before {w wr w1 : World} {x y x' y' : Int} {v : Value} {n : Nat} {xs : List Value} {p q : Value} {t : TypeId} (hB : Box2 w.heap.size (.int .i64 x) (.int .i64 y) wr) (hO : wr.ownsRow (w.heap.size + 1) 49 3 v n xs) (hL : Below w.heap.size w wr)
    (hb : Below (wr.alloc (.cells #[p, q] t)).drew.heap.size (wr.alloc (.cells #[p, q] t)).drew w1) :
    UpMid w ((w1.setCell ⟨wr.heap.size, 0, none⟩ (.int .i64 x')).setCell ⟨wr.heap.size, 1, none⟩ (.int .i64 y')) wr.heap.size x y x' y' v n xs := by
  have hs0 : (wr.alloc (.cells #[p, q] t)).drew.heap.size = wr.heap.size + 1 := by simp
  have hs := hb.size
  have h6 : w.heap.size < wr.heap.size := hB.2.2.2.2
  have hne : wr.heap.size ≠ w.heap.size := by omega
  have hL0 : Below w.heap.size w (wr.alloc (.cells #[p, q] t)).drew := (hL.alloc hL.size _).drew
  have hL1 : Below w.heap.size w w1 := hL0.trans (hb.mono (by rw [hs0]; omega))
  have hl := fun k hk => hO.lt k hk
  have hnb : ∀ o, v.ownBlock ≠ some (⟨wr.heap.size, o, none⟩ : Addr).block := fun o e => by have := hl _ e; simp at this
  refine ⟨((Box2.made wr p q t).drew.behind hb).set _ _, hne, ((((hB.alloc _).drew).behind hb).put (p := ⟨wr.heap.size, 0, none⟩) hne _).put (p := ⟨wr.heap.size, 1, none⟩) hne _,
    ownsRow_setCell_other (ownsRow_setCell_other (((hO.alloc _).drew).kept (World.grownBy_none_of hb) (own_none v)) (hnb 0) _) (hnb 1) _, (hL1.setCell (by simp; omega) _).setCell (by simp; omega) _, fun k hk => ?_⟩
  have := hl k hk
  omega

set_option maxHeartbeats 4000000 in
theorem uprightsOf_c (s : ByteArray) (hs : s.size ≤ 1000) (hok : (lets s).all isStep = true) (w : World) (hd : Dirs w) :
    Calls Tryd.prog 39 #[.string s] w fun e w' => ∃ v, e = .returned v ∧ Ups w.heap.size w' v (upL (lets s) s.size) ∧ Below w.heap.size w w' := by
  have HD := hid hd
  clear hd
  obtain ⟨i0, hi, hz0, hz1, hz2⟩ := info_parts infoUpr
  go_enter Tryd.func39, Tryd.ntmps39
  go_wp2_with fail
  have hal : ∀ k (h : k < s.size), isStep s[k] = true := fun k h => by
    rw [List.all_eq_true] at hok
    exact hok _ (by have := take_snoc s k h; exact List.mem_of_mem_take (i := k + 1) (by rw [this]; simp))
  have HA := hid hal
  clear hal
  go_loopg [3, 5] 2000 (fun gg v i wr => ∃ (k n : Nat), gg = 2000 - k ∧ k ≤ s.size ∧ i = .int .i64 k ∧ Box2 w.heap.size (.int .i64 (PX (lets s) k)) (.int .i64 (PY (lets s) k)) wr ∧ Hid (n = (upL (lets s) k).length) ∧ n ≤ k ∧ wr.ownsRow (w.heap.size + 1) 49 3 v n (upc (upL (lets s) k)) ∧ Below w.heap.size w wr)
  case atStart => exact ⟨0, 0, rfl, Nat.zero_le _, rfl, by rw [PX_zero, PY_zero]; exact Box2.made w _ _ _, hid rfl, Nat.le_refl _, World.ownsRow_nil _ _ _ _, (Below.refl _ _).alloc (Nat.le_refl _) _⟩
  case round =>
    obtain ⟨k, n, hgg, hk, rfl, hB, HN, hnk, hO, hL⟩ := hrel
    have HGG := hid hgg
    have HL := hid hL
    have HO := hid hO
    have HB := hid hB
    clear hgg hL hO
    by_cases hlt : k < s.size
    · obtain ⟨c0, c1, f0, f1, hz⟩ := hB
      obtain ⟨hx0, hx1⟩ := PX_le (lets s) k
      obtain ⟨hy0, hy1⟩ := PY_le (lets s) k
      have HX := hid (PX_succ (lets s) k)
      have HY := hid (PY_succ (lets s) k)
      rw [at0_lets hlt] at HX HY
      have HS := hid (dx_look (HA.out k hlt))
      have H3 := hid (dy_three (HA.out k hlt))
      have HU := hid (upL_succ (lets s) k)
      rw [at0_lets hlt] at HU
      have HDX := hid (dxB_le s[k])
      generalize hxx : PX (lets s) k = x at *
      have HXX := hid hxx
      clear hxx
      generalize hyy : PY (lets s) k = y at *
      have HYY := hid hyy
      clear hyy
      obtain ⟨x', hx'⟩ : ∃ x', x' = x + dxB s[k] := ⟨_, rfl⟩
      obtain ⟨y', hy'⟩ : ∃ y', y' = y + dyB s[k] := ⟨_, rfl⟩
      have HX' := hid hx'
      have HY' := hid hy'
      have HC1 := hid (fun w => directionOf_c s[k] w)
      have HC2 : Hid (∀ w (hd : Dirs w), Calls Tryd.prog 49 #[PlaceV x y, .int .i64 (lkB s[k])] w fun e w' => e = .returned (PlaceV x' y') ∧ Below w.heap.size w w') := hid (fun w hd => by
        have := stepped_c x y (lkB s[k]) ⟨by omega, by omega⟩ ⟨by omega, by omega⟩ ⟨HS.out.2.2.1, HS.out.2.2.2⟩ w hd
        rw [HS.out.1, HS.out.2.1, ← hx', ← hy'] at this
        exact this)
      clear hx' hy'
      have hsz := HL.out.size
      have hne : wr.heap.size ≠ w.heap.size := by omega
      have e0 := (World.cell?_alloc_lt wr (.cells #[.int .i64 0, .int .i64 0] 50) ⟨w.heap.size, 0, none⟩ hz).trans c0
      have e1 := (World.cell?_alloc_lt wr (.cells #[.int .i64 0, .int .i64 0] 50) ⟨w.heap.size, 1, none⟩ hz).trans c1
      have HW1 := hid (True.intro)
      go_wp2_with fail
      go_region_held3 (fun w' => w'.cell? ⟨w.heap.size, 0, none⟩ = some (.int .i64 x) ∧ w'.cell? ⟨w.heap.size, 1, none⟩ = some (.int .i64 y))
        (first | exact ⟨c0, c1⟩ | exact ⟨d0, d1⟩ | exact ⟨e0, e1⟩ | exact ⟨(World.cell?_alloc_lt _ _ _ hzz).trans d0, (World.cell?_alloc_lt _ _ _ hzz).trans d1⟩ | exact ⟨((HB2.out.put hne _).put hne _).1, ((HB2.out.put hne _).put hne _).2.1⟩)
        (first
          | (go_at_call 50; refine (HC1.out _).mono ?_; rintro e w1 ⟨rfl, rfl⟩)
          | (go_at_call 49; refine (HC2.out _ (HD.out.below HL.out.drew)).mono ?_; rintro e w1 ⟨rfl, hb1⟩; have HB1 := hid hb1; have HB2 := hid (HB.out.drew.behind hb1); obtain ⟨d0, d1, g0, g1, hzz⟩ := HB.out.drew.behind hb1; clear hb1)
          | (go_at_call 49; refine (HC2.out _ (HD.out.below (HL.out.alloc hsz _).drew)).mono ?_; rintro e w1 ⟨rfl, hb1⟩; have HB1 := hid hb1; have HB2 := hid (((HB.out.alloc _).drew).behind hb1); obtain ⟨d0, d1, g0, g1, hzz⟩ := ((HB.out.alloc _).drew).behind hb1; have HP := hid ((Box2.made wr _ _ _).drew.behind hb1); obtain ⟨p0, p1, p2, p3, p4⟩ := (Box2.made wr _ _ _).drew.behind hb1; clear hb1))
      all_goals
        first
          | (have HM := hid (upMid_after (x' := x') (y' := y') HB.out HO.out HL.out HB1.out 50)
             generalize w1.alloc (.cells #[.int .i64 x', .int .i64 y'] 50) = W2 at *
             generalize w1.heap.size = T at *)
          | (have HM := hid (upMid_before (x' := x') (y' := y') HB.out HO.out HL.out HB1.out)
             clear p0 p1 p2 p3 p4 HP
             generalize ((w1.setCell ⟨wr.heap.size, 0, none⟩ (.int .i64 x')).setCell ⟨wr.heap.size, 1, none⟩ (.int .i64 y')) = W2 at *
             generalize wr.heap.size = T at *)
        clear HB1 HB2 c0 c1 f0 f1 hz e0 e1 hsz hne HB HO HL HC1 HC2
        obtain ⟨mT, hTn, mB, mO, mL, mNE⟩ := HM.out
        have MT := hid mT
        have MB := hid mB
        have MO := hid mO
        have ML := hid mL
        have MNE := hid mNE
        obtain ⟨p0, p1, p2, p3, p4⟩ := mT
        obtain ⟨c0, c1, f0, f1, hz⟩ := mB
        clear mO mL mNE HM
        rcases H3.out with hdy | hdy | hdy
        · have HDY := hid hdy
          obtain rfl : y' = y := by rw [HY'.out, hdy]; omega
          clear hdy
          go_wp2_with fail
          go_roundg (2000 - (k + 1))
          case measure => rw [HGG.out]; omega
          case rel =>
            have e : upL (lets s) (k + 1) = upL (lets s) k := by rw [HU.out, if_pos HDY.out]
            refine ⟨k + 1, n, rfl, by omega, by go_num, ?_, by rw [e]; exact HN, by omega, ?_, (ML.out.setCell (by simp) _).setCell (by simp) _⟩
            · rw [HX.out, HY.out, ← HX'.out, ← HY'.out]; exact MB.out.set _ _
            · rw [e]; exact ownsRow_setCell_below (ownsRow_setCell_below MO.out (by simp) _) (by simp) _
        all_goals
          have HDY := hid hdy
          have hyn : y' ≠ y := by rw [HY'.out, hdy]; omega
          have t1 : (y' == y) = false := by simpa using hyn
          have t2 : (y' != y) = true := by simpa using hyn
          have hlo : (if y' < y then y' else y) = min y y' := by omega
          have hyb : -2000 ≤ y' ∧ y' ≤ 2000 := by rw [HY'.out, hdy]; omega
          obtain ⟨hyb1, hyb2⟩ := hyb
          go_wp2_with (at_builtin; refine wpList_append_own _ rfl _ _ 46 rfl (w.heap.size + 1) 49 i0 (.agg #[.int .i64 0, .int .i64 0, .int .i64 0]) 3 24 Tryd.underlying46 hi hz0 hz1 hz2 rfl (by decide) _ _ _ rfl (MO.out.alloc _) ⟨W2.heap.size, 0, none⟩ 1 1 [.int .i64 x, .int .i64 (min y y'), .int .i64 (y' - y)] rfl rfl ?c1 ?c2 ?c3 ?c4 ?c5 ?_)
          case c1 => exact World.news_of_block (cs := #[.int .i64 x, .int .i64 (min y y'), .int .i64 (y' - y)]) (t := 49) (fr := (0, 0)) (heap_alloc_new W2 _)
          case c2 => intro u hu; simp at hu; rcases hu with rfl | rfl | rfl <;> rfl
          case c3 => unfold maxLen; omega
          case c4 => omega
          case c5 => simp; omega
          intro v' w3 hown' hgrow _
          have MO2 := hid hown'
          have MT2 := hid ((MT.out.alloc (.cells #[.int .i64 x, .int .i64 (min y y'), .int .i64 (y' - y)] 49)).grown hgrow (fun e => (MNE.out _ e.symm).2 rfl))
          have MB2 := hid ((MB.out.alloc (.cells #[.int .i64 x, .int .i64 (min y y'), .int .i64 (y' - y)] 49)).grown hgrow (fun e => by have := (MNE.out _ e.symm).1; omega))
          have ML2 := hid ((ML.out.alloc ML.out.size (.cells #[.int .i64 x, .int .i64 (min y y'), .int .i64 (y' - y)] 49)).grown hgrow (by simp; omega) (fun j hj => by have := (MNE.out _ hj).1; omega))
          clear hown' hgrow p0 p1 p2 p3 p4 c0 c1 f0 f1 hz MT MB MO ML MNE
          obtain ⟨p0, p1, p2, p3, p4⟩ := MT2.out
          obtain ⟨c0, c1, f0, f1, hz⟩ := MB2.out
          clear hdy hyn t1 t2 hlo
          go_wp2_with fail
          go_roundg (2000 - (k + 1))
          case measure => rw [HGG.out]; omega
          case rel =>
            have e : upL (lets s) (k + 1) = upL (lets s) k ++ [⟨x, min y y', y' - y⟩] := by
              rw [HU.out, if_neg (by have := HDY.out; omega), HY.out, ← HY'.out]
              have := HY'.out
              rw [show y' - y = dyB s[k] from by omega]
            refine ⟨k + 1, n + 1, rfl, by omega, by go_num, ?_, hid (by rw [e, List.length_append, ← HN.out]; rfl), by omega, ?_, (ML2.out.setCell (by simp) _).setCell (by simp) _⟩
            · rw [HX.out, HY.out, ← HX'.out, ← HY'.out]; exact MB2.out.set _ _
            · rw [e, upc_append]; exact ownsRow_setCell_below (ownsRow_setCell_below MO2.out (by simp) _) (by simp) _
    · have HKK : Hid (k = s.size) := hid (by omega)
      have hlt' : ¬ (k : Int) < (s.size : Int) := by omega
      clear hlt hk hB
      go_wp2_with fail
      go_ret
      have hO := HO.out
      rw [HN.out, HKK.out] at hO
      have hU := ups_of hO
      obtain ⟨ad, cap, h1, h2, h3, h4⟩ := hU
      refine ⟨_, rfl, ⟨ad, cap, h1, h2, h3, fun h0 => ?_⟩, HL.out⟩
      obtain ⟨g, e1, e2, e3⟩ := h4 h0
      exact ⟨g, e1, by omega, e3⟩
end Go.Proofs.YtkfmppjljdhogaaDoor
