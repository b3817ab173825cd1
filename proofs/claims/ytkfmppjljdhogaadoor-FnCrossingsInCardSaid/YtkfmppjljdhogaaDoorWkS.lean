/- Contracts: rowScan, its closure, squaresWithin, SquaresIn of the program. -/
import Derived.Test.YtkfmppjljdhogaaDoorWkH
import Derived.Test.YtkfmppjljdhogaaDoorSqQ
namespace Go.Proofs.YtkfmppjljdhogaaDoor
open Go.RowKit TW
open Go.Maps (Keyed keyOf_int_mk)

theorem lawInt : Keyed Tryd.prog 3 := Go.Maps.int_keyed Tryd.underlying3
/-- How many at each number. -/
def StD (D : DataW Unit) (f : Int → Int) : Prop := ∀ x, (Lit.int .i64 x).wf = true → D.atKey (.int .i64 x) (.lit (.int .i64 0)) = .lit (.int .i64 (f x))
theorem StD.put {D : DataW Unit} {f f' : Int → Int} {p z : Int} (h : StD D f) (hM : Go.Maps.IsMap D) (hk : keyOf Tryd.prog 3 (.int .i64 p) = some (.int .i64 p)) (he : f' p = z) (hs : ∀ x, x ≠ p → f' x = f x) : StD (D.put (.int .i64 p) (.lit (.int .i64 z))) f' := by
  intro x hx
  by_cases c : x = p
  · subst c; rw [Maps.atKey_put_same hM (lawInt.key hk), he]
  · rw [Maps.atKey_put_other (fun e => c (by injection e)), h x hx, hs x c]

/-- The scanner of a row: its map of steps, and what it has told last. -/
def Scan (B0 : Nat) (W : World) (M S T : Nat) (f : Int → Int) (z : Bool) : Prop :=
  (B0 ≤ M ∧ B0 ≤ S ∧ B0 ≤ T) ∧ M ≠ T ∧ S ≠ T ∧ T < W.heap.size ∧ W.cell? ⟨S, 0, none⟩ = some (.map (some M)) ∧ W.cell? ⟨T, 0, none⟩ = some (.bool z) ∧ W.frozen? ⟨T, 0, none⟩ = false ∧ ∃ D : DataW Unit, W.ownsMap Tryd.prog 3 (plainElem Tryd.prog 3) M 100 D ∧ StD D f
theorem Scan.kept {B0 b : Nat} {W W1 : World} {M S T : Nat} {f : Int → Int} {z : Bool} (h : Scan B0 W M S T f z) (hg : W.grownBy W1 (some b)) (hb : b < B0) : Scan B0 W1 M S T f z := by
  obtain ⟨⟨b1, b2, b3⟩, n1, n2, ht, c1, c2, c3, D, ho, hd⟩ := h
  have ne : ∀ k o, B0 ≤ k → some (⟨k, o, none⟩ : Addr).block ≠ some b := fun k o hk e => by have := Option.some.inj e; simp at this; omega
  refine ⟨⟨b1, b2, b3⟩, n1, n2, Nat.lt_of_lt_of_le ht hg.size, hg.cell c1 (ne _ _ b2), hg.cell c2 (ne _ _ b3), ?_, D, ho.kept hg (ne M 0 b1), hd⟩
  exact (World.frozen?_of_block (a := ⟨T, 0, none⟩) (hg.block T ht (ne T 0 b3))).trans c3

theorem Scan.mono {B0 B1 : Nat} {W : World} {M S T : Nat} {f : Int → Int} {z : Bool} (h : Scan B0 W M S T f z) (hb : B1 ≤ B0) : Scan B1 W M S T f z := by
  obtain ⟨⟨b1, b2, b3⟩, r⟩ := h
  exact ⟨⟨by omega, by omega, by omega⟩, r⟩

theorem row_last_c (x : Int) (B0 : Nat) (W : World) (M S T : Nat) (f : Int → Int) (z : Bool) (hx : -1000 ≤ x ∧ x ≤ 1000) (h0 : 0 ≤ f x) (h1 : f x ≤ 1000) (h : Scan B0 W M S T f z) :
    Calls Tryd.prog 57 #[.int .i64 x, .pointer (some ⟨S, 0, none⟩), .pointer (some ⟨T, 0, none⟩)] W fun e w' => e = .returned (.bool (if f x % 2 = 1 then !z else z)) ∧ Scan B0 w' M S T f (if f x % 2 = 1 then !z else z) ∧ W.grownBy w' (some T) ∧ w'.heap.size = W.heap.size := by
  obtain ⟨hB, n1, n2, ht, c1, c2, c3, D, ho, hd⟩ := h
  obtain ⟨hx1, hx2⟩ := hx
  have hkey : keyOf Tryd.prog 3 (.int .i64 x) = some (.int .i64 x) := keyOf_int_mk Tryd.underlying3 (WalkArith.wf_i64 (by omega))
  have hat := hd x (WalkArith.wf_i64 (by omega))
  obtain ⟨c, hlook, hc, _⟩ := ho.lookup_int lawInt (t := 70) Tryd.underlying70 Tryd.underlying3 (zeroI _) hkey
  rw [hat] at hc
  have hcf : f x = c := by injection hc with hc; injection hc
  rw [hcf] at h0 h1 ⊢
  have HK := hid (⟨hB, n1, n2, ht⟩ : (B0 ≤ M ∧ B0 ≤ S ∧ B0 ≤ T) ∧ M ≠ T ∧ S ≠ T ∧ T < W.heap.size)
  have HD := hid hd
  have HO := hid ho
  clear hd ho hat hc hcf hB
  by_cases hp : c % 2 = 1
  · have t1 : (c % 2 == 1) = true := by simpa using hp
    rw [if_pos hp]
    have HO2 := hid (HO.out.setCell (a := ⟨T, 0, none⟩) n1 (.bool (!z)))
    clear hp
    go_enter Tryd.func57, Tryd.ntmps57
    go_wp2_with fail
    go_ret
    refine ⟨rfl, ⟨HK.out.1, HK.out.2.1, HK.out.2.2.1, by simpa using HK.out.2.2.2, ?_, ?_, ?_, D, HO2.out, HD.out⟩, ?_, by simp⟩
    · rw [World.cell?_setCell_other _ _ _ _ (by simp)]; exact c1
    · exact World.cell?_setCell_same (w := W) (a := ⟨T, 0, none⟩) (v := .bool (!z)) c2
    · rw [World.frozen?_setCell]; exact c3
    · exact ⟨rfl, rfl, rfl, by simp, fun j hj hne => Below.heap_setCell _ _ _ _ (fun e => hne (by rw [e]))⟩
  · have t1 : (c % 2 == 1) = false := by simpa using hp
    rw [if_neg hp]
    clear hp
    go_enter Tryd.func57, Tryd.ntmps57
    go_wp2_with fail
    go_ret
    exact ⟨rfl, ⟨HK.out.1, HK.out.2.1, HK.out.2.2.1, HK.out.2.2.2, c1, c2, c3, D, HO.out, HD.out⟩, World.grownBy.refl _ _, rfl⟩

set_option maxHeartbeats 4000000 in
theorem rowScan_c (B : Nat) (v : Value) (us : List Upr) (y : Int) (w : World) (hU : Ups B w v us) (hn : us.length ≤ 40) (hus : ∀ i, i < us.length → -40 ≤ (upAt us i).x ∧ (upAt us i).x ≤ 40) :
    Calls Tryd.prog 51 #[v, .int .i64 y] w fun e w' => ∃ M S T : Nat, e = .returned (.func (.func 57) #[] #[.pointer (some ⟨S, 0, none⟩), .pointer (some ⟨T, 0, none⟩)]) ∧ Scan w.heap.size w' M S T (fun x => stU us y x us.length) false ∧ Below w.heap.size w w' := by
  obtain ⟨ad, cap, rfl, _, hcap, hview⟩ := hU
  have HV := hid hview
  have HUS := hid hus
  clear hview hus
  have hmm := @run_makeMap Tryd.prog
  have hmf : ∀ (fn : Fn) (first cap : Array Value) (w : World), (Instr.makeFunc fn first cap).run Tryd.prog w = .ok (.func fn first cap) w := fun _ _ _ _ => rfl
  generalize hnn : us.length = n at *
  have HN := hid hnn
  clear hnn
  go_enter Tryd.func51, Tryd.ntmps51
  go_wp2_with fail
  have HO := hid ((World.ownsMap_made (H := Unit) w Tryd.prog 3 (plainElem Tryd.prog 3)).alloc (.cells #[.map (some w.heap.size)] 70))
  have HB0 : Hid (Below w.heap.size w ((w.alloc (.map #[] 0)).alloc (.cells #[.map (some w.heap.size)] 70))) := hid (((Below.refl _ _).alloc (Nat.le_refl _) _).alloc (by simp) _)
  have HC : Hid (((w.alloc (.map #[] 0)).alloc (.cells #[.map (some w.heap.size)] 70)).cell? ⟨w.heap.size + 1, 0, none⟩ = some (.map (some w.heap.size)) ∧ w.heap.size + 1 < ((w.alloc (.map #[] 0)).alloc (.cells #[.map (some w.heap.size)] 70)).heap.size) := hid (by simp)
  clear hmm
  go_loopg [12] 100 (fun gg i wr => ∃ (k : Nat) (D : DataW Unit), gg = 100 - k ∧ k ≤ n ∧ i = .int .i64 k ∧ Hid (wr.ownsMap Tryd.prog 3 (plainElem Tryd.prog 3) w.heap.size k D) ∧ Hid (StD D (fun x => stU us y x k)) ∧ Hid (wr.cell? ⟨w.heap.size + 1, 0, none⟩ = some (.map (some w.heap.size)) ∧ w.heap.size + 1 < wr.heap.size) ∧ Hid (Below w.heap.size w wr))
  case atStart => exact ⟨0, .map [], rfl, Nat.zero_le _, rfl, HO, hid (fun x _ => rfl), HC, HB0⟩
  case round =>
    clear HO HB0 HC
    obtain ⟨k, D, hgg, hk, rfl, HO, HS, HC, HB⟩ := hrel
    have HGG := hid hgg
    clear hgg
    obtain ⟨cS, hS⟩ := HC.out
    by_cases hlt : k < n
    · obtain ⟨g, rfl, _, hg1, hcs⟩ := HV.out (by omega)
      obtain ⟨c0, c1, c2⟩ := hcs k hlt
      have q0 := (HB.out.cell (p := ⟨g, k * 3, none⟩) hg1).trans c0
      have q1 := (HB.out.cell (p := ⟨g, k * 3 + 1, none⟩) hg1).trans c1
      have q2 := (HB.out.cell (p := ⟨g, k * 3 + 2, none⟩) hg1).trans c2
      obtain ⟨bx1, bx2⟩ := HUS.out k hlt
      have HSt := hid (fun x => stU_succ us y x k)
      have HSl := hid (fun x => stU_le us y x k)
      clear c0 c1 c2 hcs
      generalize upAt us k = u at *
      obtain ⟨ux, uy, uu⟩ := u
      simp only at *
      have hlt' : (k : Int) < (n : Int) := by omega
      have k0 : (0 : Int) ≤ (k : Int) := Int.natCast_nonneg _
      by_cases h1 : uy = y
      · have t1 : (uy == y) = true := by simpa using h1
        have HY := hid h1
        clear h1
        have hkey : keyOf Tryd.prog 3 (.int .i64 ux) = some (.int .i64 ux) := keyOf_int_mk Tryd.underlying3 (WalkArith.wf_i64 (by omega))
        have hat := HS.out ux (WalkArith.wf_i64 (by omega))
        have HO1 := hid (HO.out.alloc (.cells #[.int .i64 ux, .int .i64 uy, .int .i64 uu] 49))
        obtain ⟨c, hlook, hc, _⟩ := HO1.out.lookup_int lawInt (t := 70) Tryd.underlying70 Tryd.underlying3 (zeroI _) hkey
        rw [hat] at hc
        have hcf : stU us y ux k = c := by injection hc with hc; injection hc
        have hcl := HSl.out ux
        rw [hcf] at hcl
        have HCF := hid hcf
        have hc1 := (World.cell?_alloc_lt wr (.cells #[.int .i64 ux, .int .i64 uy, .int .i64 uu] 49) ⟨w.heap.size + 1, 0, none⟩ hS).trans cS
        have HB1 := hid (HB.out.alloc HB.out.size (.cells #[.int .i64 ux, .int .i64 uy, .int .i64 uu] 49))
        have HKey := hid hkey
        clear hat hc hcf hkey
        go_wp2_with (at_mapUpdate; refine wpList_mapUpdate_own _ rfl _ _ _ 70 rfl 3 3 lawInt Tryd.underlying70 (plainElem Tryd.prog 3) w.heap.size k D rfl HO1.out (by unfold maxLen; omega) _ _ _ rfl rfl HKey.out _ [] (plainElem_int Tryd.underlying3 (WalkArith.wf_i64 (by omega))) ?_)
        intro w5 hown5 hg5
        have HO5 := hid hown5
        have HC5 := hid (hg5.cell (a := ⟨w.heap.size + 1, 0, none⟩) hc1 (by simp))
        have HS5 : Hid (w.heap.size + 1 < w5.heap.size) := hid (by have := hg5.size; simp at this; omega)
        have HB5 := hid (HB1.out.grown hg5 (by have := HB1.out.size; omega) (fun j hj => by cases hj; exact Nat.le_refl _))
        clear hown5 hg5 hc1 cS hlook
        go_wp2_with fail
        go_roundg (100 - (k + 1))
        case measure => rw [HGG.out]; omega
        case rel =>
          refine ⟨k + 1, _, rfl, by omega, by go_num, HO5, hid (StD.put HS.out HO.out.isMap HKey.out ?_ ?_), hid ⟨HC5.out, HS5.out⟩, HB5⟩
          · show stU us y ux (k + 1) = c + 1
            rw [HSt.out, if_pos ⟨HY.out, rfl⟩, HCF.out]
          · intro x hx
            show stU us y x (k + 1) = stU us y x k
            rw [HSt.out, if_neg (fun e => hx e.2.symm)]; omega
      · have t1 : (uy == y) = false := by simpa using h1
        have HY := hid h1
        have HO1 := hid (HO.out.alloc (.cells #[.int .i64 ux, .int .i64 uy, .int .i64 uu] 49))
        have hsz := HB.out.size
        clear h1
        go_wp2_with fail
        go_roundg (100 - (k + 1))
        case measure => rw [HGG.out]; omega
        case rel => exact ⟨k + 1, D, rfl, by omega, by go_num, hid (HO1.out.mono (by omega)), hid (fun x hx => by rw [HS.out x hx]; show _ = DataW.lit (.int .i64 (stU us y x (k + 1))); rw [HSt.out, if_neg (fun e => HY.out e.1), Int.add_zero]), hid ⟨(World.cell?_alloc_lt _ _ _ hS).trans cS, by simp; omega⟩, hid (HB.out.alloc hsz _)⟩
    · have HK : Hid (k = n) := hid (by omega)
      have hlt' : ¬ (k : Int) < (n : Int) := by omega
      have hsz := HB.out.size
      clear hlt hk
      go_wp2_with fail
      go_ret
      refine ⟨w.heap.size, w.heap.size + 1, wr.heap.size, rfl, ⟨⟨by omega, by omega, by omega⟩, by omega, by omega, by simp, (World.cell?_alloc_lt _ _ _ hS).trans cS, by simp, by simp, D, (HO.out.alloc _).mono (by have := HK.out; omega), ?_⟩, HB.out.alloc hsz _⟩
      have h := HS.out
      rw [HK.out] at h
      exact h
/-- A set of squares of the box. -/
def SqD (D : DataW Unit) (V : Int → Int → Bool) : Prop :=
  (∀ x y, Fit2 x y → (Maps.has D (klOf x y) = true ↔ V x y = true)) ∧ (∀ kl, Maps.has D kl = true → ∃ x y, InBox x y ∧ kl = klOf x y) ∧ ((Maps.size D : Nat) : Int) = cntV V
theorem SqD.start {V : Int → Int → Bool} (h : ∀ a b, V a b = false) : SqD (.map []) V :=
  ⟨fun x y _ => by rw [h x y]; simp [Maps.has], fun kl h => by simp [Maps.has] at h, by rw [cntV_none h]; rfl⟩
theorem SqD.congr {D : DataW Unit} {V V' : Int → Int → Bool} (h : SqD D V) (e : ∀ a b, V' a b = V a b) : SqD D V' :=
  ⟨fun x y hf => by rw [e]; exact h.1 x y hf, h.2.1, by rw [h.2.2, cntV_congr e]⟩
theorem SqD.put {D : DataW Unit} {V V' : Int → Int → Bool} {p q : Int} {d : DataW Unit} (h : SqD D V) (hT : Go.Maps.Tidy D) (hb : InBox p q) (h0 : V p q = false) (hs : ∀ a b, V' a b = true ↔ (V a b = true ∨ (a = p ∧ b = q))) : SqD (D.put (klOf p q) d) V' := by
  have hM := hT.isMap
  refine ⟨fun x y hf => ?_, fun kl hk => ?_, ?_⟩
  · rw [hs]
    by_cases c : x = p ∧ y = q
    · obtain ⟨rfl, rfl⟩ := c
      simp [Maps.has_put_same hM (klOf_isKey hf)]
    · rw [Maps.has_put_other (fun e => c (klOf_inj hf hb.fit e)), h.1 x y hf]
      simp [c]
  · by_cases c : kl = klOf p q
    · exact ⟨p, q, hb, c⟩
    · rw [Maps.has_put_other c] at hk
      exact h.2.1 kl hk
  · have hn : ¬ Maps.has D (klOf p q) = true := fun e => by rw [h.1 p q hb.fit, h0] at e; cases e
    rw [Maps.size_put hT, if_neg hn, cntV_put hb h0 hs, ← h.2.2]
    omega

theorem grown_row {a b c : World} {B T : Nat} (h : a.grownBy b (some B)) (k : b.grownBy c (some T)) (hT : a.heap.size ≤ T ∨ T = B) : a.grownBy c (some B) :=
  h.andThen k (fun j hj => by cases hj; rcases hT with h | rfl; exact Or.inl h; exact Or.inr rfl)

set_option maxHeartbeats 8000000 in
theorem squaresWithin_c (s : ByteArray) (hcl : clL (lets s) = true) (w : World) (hd : Dirs w) :
    Calls Tryd.prog 36 #[.string s] w fun e w' => e = .returned (.map (some w.heap.size)) ∧ Hid (∃ D : DataW Unit, w'.ownsMap Tryd.prog 50 (unitElem (H := Unit)) w.heap.size 100000 D ∧ SqD D (inL (lets s))) ∧ Below w.heap.size w w' := by
  have HD := hid hd
  have HC := hid hcl
  obtain ⟨h40, hall⟩ := cl_facts hcl
  have HA := hid hall
  clear hd hcl hall
  have hmm := @run_makeMap Tryd.prog
  go_enter Tryd.func36, Tryd.ntmps36
  go_wp2_with fail
  clear hmm
  have HO := hid (World.ownsMap_made (H := Unit) w Tryd.prog 50 (unitElem (H := Unit)))
  have HB0 : Hid (Below w.heap.size w (w.alloc (.map #[] 0))) := hid ((Below.refl _ _).alloc (Nat.le_refl _) _)
  have HZ0 : Hid ((w.alloc (.map #[] 0)).heap.size = w.heap.size + 1) := hid (by simp)
  generalize w.alloc (.map #[] 0) = W0 at *
  refine (uprightsOf_c s (by omega) HA.out _ (HD.out.below HB0.out)).mono ?_
  rintro e w1 ⟨v, rfl, hU, hb⟩
  have HU := hid hU
  have HO := hid (HO.out.kept (World.grownBy_none_of hb) (by simp))
  have HB1 := hid (HB0.out.trans (hb.mono HB0.out.size))
  have HZ1 : Hid (w.heap.size < W0.heap.size ∧ w.heap.size < w1.heap.size) := hid (by have := hb.size; have := HZ0.out; omega)
  clear hb hU HB0
  go_wp2_with fail
  refine (boundsOf_c s (by omega) HA.out _ (HD.out.below HB1.out)).mono ?_
  rintro e w2 ⟨rfl, hb⟩
  have HU := hid (HU.out.behind hb)
  have HO := hid (HO.out.kept (World.grownBy_none_of hb) (by simp))
  have HB2 := hid (HB1.out.trans (hb.mono HB1.out.size))
  have HZ2 : Hid (w.heap.size < w2.heap.size) := hid (by have := hb.size; have := HZ1.out; omega)
  have e1 : loT (PX (lets s)) (s.size + 1) = lox (lets s) := by unfold lox; rw [lets_len]
  have e2 : loT (PY (lets s)) (s.size + 1) = loy (lets s) := by unfold loy; rw [lets_len]
  have e3 : hiT (PX (lets s)) (s.size + 1) = hix (lets s) := by unfold hix; rw [lets_len]
  have e4 : hiT (PY (lets s)) (s.size + 1) = hiy (lets s) := by unfold hiy; rw [lets_len]
  rw [e1, e2, e3, e4]
  have HBnd := hid (bounds_le HC.out)
  have HUx : Hid (∀ i, i < (upL (lets s) s.size).length → -40 ≤ (upAt (upL (lets s) s.size) i).x ∧ (upAt (upL (lets s) s.size) i).x ≤ 40 ∧ lox (lets s) ≤ (upAt (upL (lets s) s.size) i).x) := hid (fun i hi => by
    have h1 := upAt_le hi
    have h3 : i < (upL (lets s) (lets s).length).length := by rw [lets_len]; exact hi
    have h4 := up_west h3
    rw [lets_len] at h4
    omega)
  have HIn : Hid (∀ b x, odU (upL (lets s) s.size) b (x + 1) = inL (lets s) x b) := hid (fun b x => by have := odU_in HC.out b x; rw [lets_len] at this; exact this)
  have HLen := hid (upL_len (lets s) s.size)
  clear hb HB1 e1 e2 e3 e4
  have V0 := hid (sqV_start HC.out)
  have VR := hid (sqV_row HC.out)
  have VE := hid (sqV_end HC.out)
  generalize upL (lets s) s.size = us at *
  generalize hlx : lox (lets s) = lx at *
  generalize hly : loy (lets s) = ly at *
  generalize hhx : hix (lets s) = hx at *
  generalize hhy : hiy (lets s) = hy at *
  clear hlx hly hhx hhy
  obtain ⟨⟨n1, n2⟩, ⟨n3, n4⟩, ⟨n5, n6⟩, n7, n8⟩ := HBnd.out
  go_wp2_with fail
  have HB3 : Hid (Below w.heap.size w ((w2.alloc (.cells #[.int .i64 lx, .int .i64 ly] 50)).alloc (.cells #[.int .i64 hx, .int .i64 hy] 50))) := hid ((HB2.out.alloc HB2.out.size _).alloc (by have := HZ2.out; simp; omega) _)
  have HO := hid ((HO.out.alloc (.cells #[.int .i64 lx, .int .i64 ly] 50)).alloc (.cells #[.int .i64 hx, .int .i64 hy] 50))
  have HU := hid ((HU.out.behind ((Below.refl _ _).alloc (Nat.le_refl _) (.cells #[.int .i64 lx, .int .i64 ly] 50))).behind ((Below.refl _ _).alloc (Nat.le_refl _) (.cells #[.int .i64 hx, .int .i64 hy] 50)))
  have HL1 := hid ((Box2.made w2 (.int .i64 lx) (.int .i64 ly) 50).alloc (.cells #[.int .i64 hx, .int .i64 hy] 50))
  have HL2 := hid (Box2.made (w2.alloc (.cells #[.int .i64 lx, .int .i64 ly] 50)) (.int .i64 hx) (.int .i64 hy) 50)
  simp only [World.size_alloc] at HL2
  generalize ((w2.alloc (.cells #[.int .i64 lx, .int .i64 ly] 50)).alloc (.cells #[.int .i64 hx, .int .i64 hy] 50)) = W4 at *
  generalize w2.heap.size = L at *
  have HZ4 := hid (⟨HZ2.out, HL1.out.2.2.2.2, HL2.out.2.2.2.2⟩ : w.heap.size < L ∧ L < W4.heap.size ∧ L + 1 < W4.heap.size)
  clear HB2
  go_loopg [7] 100 (fun gg yv wr => ∃ (j m : Nat) (Y : Int) (D : DataW Unit), gg = 100 - j ∧ Hid (Y = ly + j) ∧ ly ≤ Y ∧ Y ≤ hy ∧ yv = .int .i64 Y ∧ Hid (wr.ownsMap Tryd.prog 50 (unitElem (H := Unit)) w.heap.size m D) ∧ m ≤ 100 * j ∧ Hid (SqD D (sqV (lets s) Y lx)) ∧ Hid (W4.grownBy wr (some w.heap.size)) ∧ Hid (Below w.heap.size w wr))
  case atStart => exact ⟨0, 0, ly, .map [], rfl, hid (by omega), Int.le_refl _, by omega, rfl, HO, by omega, hid (SqD.start V0.out), hid (World.grownBy.refl _ _), HB3⟩
  case round =>
    clear HO HB3
    obtain ⟨j, m, Y, D, hgg, HY, hY1, hY2, rfl, HO, hm, HS, HG, HB⟩ := hrel
    have HGG := hid hgg
    clear hgg
    have ne : ∀ k o, w.heap.size < k → some (⟨k, o, none⟩ : Addr).block ≠ some w.heap.size := fun k o hk e => by have := Option.some.inj e; simp at this; omega
    have NE := hid ne
    clear ne
    have a0 := HG.out.cell HL1.out.1 (NE.out L 0 HZ4.out.1)
    have a1 := HG.out.cell HL1.out.2.1 (NE.out L 0 HZ4.out.1)
    have b0 := HG.out.cell HL2.out.1 (NE.out (L + 1) 0 (by have := HZ4.out.1; omega))
    have b1 := HG.out.cell HL2.out.2.1 (NE.out (L + 1) 0 (by have := HZ4.out.1; omega))
    by_cases hlt : Y < hy
    · have hj : j ≤ 40 := by have := HY.out; omega
      go_wp2_with fail
      refine (rowScan_c W0.heap.size v us Y _ (HU.out.kept HG.out HZ1.out.1) (by have := HLen.out; omega) (fun i hi => ⟨(HUx.out i hi).1, (HUx.out i hi).2.1⟩)).mono ?_
      rintro e w5 ⟨M, S, T, rfl, hsc, hb5⟩
      have hws : W4.heap.size ≤ wr.heap.size := HG.out.size
      have HSc : Hid (Scan W4.heap.size w5 M S T (fun x => stU us Y x us.length) (odU us Y lx)) := hid (by rw [odU_start (fun i hi => (HUx.out i hi).2.2)]; exact hsc.mono hws)
      have HO5 := hid (HO.out.kept (World.grownBy_none_of hb5) (by simp))
      have HG5 := hid (HG.out.trans ((World.grownBy_none_of hb5).but _))
      have HB5 := hid (HB.out.trans (hb5.mono HB.out.size))
      have a0 := HG5.out.cell HL1.out.1 (NE.out L 0 HZ4.out.1)
      clear hsc hb5 a1 b0 b1 HO HG HB
      go_wp2_with fail
      clear a0
      go_loopg [9] 100 (fun gg xv wx => ∃ (i m' : Nat) (X : Int) (D' : DataW Unit), gg = 100 - i ∧ Hid (X = lx + i) ∧ lx ≤ X ∧ X ≤ hx ∧ xv = .int .i64 X ∧ Hid (wx.ownsMap Tryd.prog 50 (unitElem (H := Unit)) w.heap.size m' D') ∧ m' ≤ 100 * j + i ∧ Hid (SqD D' (sqV (lets s) Y X)) ∧ Hid (W4.grownBy wx (some w.heap.size)) ∧ Hid (Below w.heap.size w wx) ∧ Hid (Scan W4.heap.size wx M S T (fun x => stU us Y x us.length) (odU us Y X)))
      case atStart => exact ⟨0, m, lx, D, rfl, hid (by omega), Int.le_refl _, by omega, rfl, HO5, by omega, HS, HG5, HB5, HSc⟩
      case round =>
        clear HO5 HG5 HB5 HSc HS
        obtain ⟨i, m', X, D', hgg2, HX, hX1, hX2, rfl, HO, hm', HS, HG, HB, HSc⟩ := hrel
        have HGG2 := hid hgg2
        clear hgg2
        have b0 := HG.out.cell HL2.out.1 (NE.out (L + 1) 0 (by have := HZ4.out.1; omega))
        have hi40 : i ≤ 40 := by have := HX.out; omega
        by_cases hlt2 : X < hx
        · have hbx : InBox X Y := by unfold InBox; omega
          have HR := hid (fun W' (hsc : Scan W4.heap.size W' M S T (fun x => stU us Y x us.length) (odU us Y X)) => row_last_c X W4.heap.size W' M S T (fun x => stU us Y x us.length) (odU us Y X) ⟨by omega, by omega⟩ (stU_le us Y X us.length).1 (by have := (stU_le us Y X us.length).2; have := HLen.out; show stU us Y X us.length ≤ 1000; omega) hsc)
          simp only [← odU_step] at HR
          have HI := hid (HIn.out Y X)
          rw [HI.out] at HR
          go_wp2_with fail
          refine (HR.out _ HSc.out).mono ?_
          rintro e w6 ⟨rfl, hsc, hg6, hs6⟩
          have hBT : w.heap.size < T := by have := hsc.1.2.2; have := HZ4.out; omega
          have hWT : W4.heap.size ≤ T := hsc.1.2.2
          have HSc := hid hsc
          have HO := hid (HO.out.kept hg6 (fun e => by have := Option.some.inj e; omega))
          have HG := hid (grown_row HG.out hg6 (Or.inl hWT))
          have HB := hid (HB.out.grown hg6 HB.out.size (fun k hk => by cases hk; omega))
          clear hsc hg6 hs6 b0 hBT hWT HR
          cases hin : inL (lets s) X Y with
          | false =>
            have HS := hid (HS.out.congr (fun a b => sqV_no hin a b))
            rw [hin] at HI HSc
            rw [← HI.out] at HSc
            clear hin
            go_wp2_with fail
            go_roundg (100 - (i + 1))
            case measure => rw [HGG2.out]; omega
            case rel => exact ⟨i + 1, m', X + 1, D', rfl, hid (by rw [HX.out]; omega), by omega, by omega, rfl, HO, by omega, HS, HG, HB, HSc⟩
          | true =>
            have HS := hid (HS.out.put (d := .agg []) (HO.out.tidy lawPlace) hbx (sqV_new (lets s) Y X) (fun a b => sqV_yes hin a b))
            rw [hin] at HI HSc
            rw [← HI.out] at HSc
            have HKey := hid (keyPlace hbx.fit)
            clear hin
            go_wp2_with (at_mapUpdate; refine wpList_mapUpdate_own _ rfl _ _ _ 43 rfl 50 51 lawPlace Tryd.underlying43 (unitElem (H := Unit)) w.heap.size m' D' rfl HO.out (by unfold maxLen; omega) _ _ _ rfl rfl HKey.out _ [] unitElem_mk ?_)
            intro w7 hown7 hg7
            have HO7 := hid hown7
            have HG7 := hid (HG.out.trans hg7)
            have HB7 := hid (HB.out.grown hg7 HB.out.size (fun k hk => by cases hk; exact Nat.le_refl _))
            have HSc7 := hid (HSc.out.kept hg7 (by have := HZ4.out; omega))
            clear hown7 hg7
            go_wp2_with fail
            go_roundg (100 - (i + 1))
            case measure => rw [HGG2.out]; omega
            case rel => exact ⟨i + 1, m' + 1, X + 1, _, rfl, hid (by rw [HX.out]; omega), by omega, by omega, rfl, HO7, by omega, HS, HG7, HB7, HSc7⟩
        · have hXe : X = hx := by omega
          have HS := hid (HS.out.congr (V' := sqV (lets s) (Y + 1) lx) (fun a b => by rw [hXe]; exact (VR.out Y a b).symm))
          go_wp2_with fail
          go_roundg (100 - (j + 1))
          case measure => rw [HGG.out]; omega
          case rel => exact ⟨j + 1, m', Y + 1, D', rfl, hid (by rw [HY.out]; omega), by omega, by omega, rfl, HO, by omega, HS, HG, HB⟩
    · have hYe : Y = hy := by omega
      go_wp2_with fail
      go_ret
      have hj : j ≤ 40 := by have := HY.out; omega
      refine ⟨rfl, hid ⟨D, HO.out.mono (by omega), HS.out.congr (fun a b => by rw [hYe]; exact (VE.out a b).symm)⟩, HB.out⟩

theorem sq_cnt (l : List UInt8) : cntV (inL l) = sqL l := rfl
/-- What SquaresIn comes to. -/
noncomputable def sqR (l : List UInt8) : Int := if smL l then sqL l else -1
theorem sqR_no {l : List UInt8} (h : smL l = false) : sqR l = -1 := by unfold sqR; rw [h]; rfl
theorem sqR_yes {l : List UInt8} (h : smL l = true) : sqR l = sqL l := by unfold sqR; rw [if_pos h]

set_option maxHeartbeats 2000000 in
theorem implSquaresIn_c (s : ByteArray) (hs : s.size ≤ maxLen) (w : World) (hd : Dirs w) :
    Calls Tryd.prog 15 #[.string s] w fun e w' => e = .returned (.int .i64 (sqR (lets s))) ∧ Below w.heap.size w w' := by
  have HD := hid hd
  clear hd
  go_enter Tryd.func15, Tryd.ntmps15
  go_wp2_with fail
  refine (implSimpleOk_c s hs _ HD.out).mono ?_
  rintro e w1 ⟨rfl, hb1⟩
  have HB1 := hid hb1
  clear hb1
  cases hcl : smL (lets s) with
  | false =>
    have HR := hid (sqR_no hcl)
    clear hcl
    go_wp2_with fail
    go_ret
    exact ⟨ret_int HR.out.symm, HB1.out⟩
  | true =>
    have HC := hid hcl
    clear hcl
    go_wp2_with fail
    refine (squaresWithin_c s (smL_cl HC.out) _ (HD.out.below HB1.out)).mono ?_
    rintro e w2 ⟨rfl, HM, hb2⟩
    obtain ⟨D, hown, hsq⟩ := HM.out
    have HB2 := hid (HB1.out.trans (hb2.mono HB1.out.size))
    have HS := hid hsq.2.2
    clear HM hb2 hsq
    go_wp2_with (at_len; refine wpList_len_own _ rfl _ 43 rfl 50 51 Tryd.underlying43 _ w1.heap.size 100000 D rfl hown ?_)
    go_ret
    exact ⟨ret_int (by rw [sqR_yes HC.out, ← sq_cnt, ← HS.out]), HB2.out⟩
end Go.Proofs.YtkfmppjljdhogaaDoor
