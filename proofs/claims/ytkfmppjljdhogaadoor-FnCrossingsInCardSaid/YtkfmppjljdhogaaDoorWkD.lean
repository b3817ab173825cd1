/- Contracts: allDifferent and SimpleOk of the program. -/
import Derived.Test.YtkfmppjljdhogaaDoorWkC
import Derived.Test.YtkfmppjljdhogaaDoorPlaceMap
import Derived.Test.YtkfmppjljdhogaaDoorP1
namespace Go.Proofs.YtkfmppjljdhogaaDoor
open Go.RowKit TW

/-- The first n places differ. -/
def Ap0 (l : List UInt8) (n : Nat) : Prop := ∀ j k, j < k → k < n → ¬ (PX l k = PX l j ∧ PY l k = PY l j)
open Classical in
noncomputable def ap0 (l : List UInt8) (n : Nat) : Bool := decide (Ap0 l n)
theorem ap0_iff {l : List UInt8} {n : Nat} : ap0 l n = true ↔ Ap0 l n := by unfold ap0; simp
theorem Ap0_zero (l : List UInt8) : Ap0 l 0 := fun _ _ _ h => absurd h (by omega)
theorem Ap0_succ (l : List UInt8) (n : Nat) : Ap0 l (n + 1) ↔ Ap0 l n ∧ ¬ ∃ j, j < n ∧ PX l j = PX l n ∧ PY l j = PY l n := by
  constructor
  · intro h
    exact ⟨fun j k h1 h2 => h j k h1 (by omega), fun ⟨j, h1, h2, h3⟩ => h j n h1 (by omega) ⟨h2.symm, h3.symm⟩⟩
  · intro ⟨h, g⟩ j k h1 h2 h3
    by_cases hk : k = n
    · subst hk; exact g ⟨j, h1, h3.1.symm, h3.2.symm⟩
    · exact h j k h1 (by omega) h3
/-- In a closed walk it is the same, whether the first or the last place is left out. -/
theorem Ap0_apart {l : List UInt8} (h : clL l = true) : Ap0 l l.length ↔ Apart l := by
  obtain ⟨hx, hy⟩ := clL_end h
  have z : PX l 0 = 0 ∧ PY l 0 = 0 := ⟨rfl, rfl⟩
  constructor
  · intro a j k h1 h2 h3 h4
    by_cases hk : k = l.length
    · subst hk
      exact a 0 j (by omega) h2 ⟨by rw [z.1, ← hx]; exact h4.1.symm, by rw [z.2, ← hy]; exact h4.2.symm⟩
    · exact a j k h2 (by omega) h4
  · intro a j k h2 h3 h4
    by_cases hj : j = 0
    · subst hj
      exact a k l.length (by omega) h3 (Nat.le_refl _) ⟨by rw [h4.1, z.1, hx], by rw [h4.2, z.2, hy]⟩
    · exact a j k (by omega) h2 (by omega) h4

/-- The first n places, each once. -/
def BeenV (l : List UInt8) (n : Nat) (x y : Int) : Prop := ∃ j, j < n ∧ PX l j = x ∧ PY l j = y
theorem BeenV_succ (l : List UInt8) (n : Nat) (x y : Int) : BeenV l (n + 1) x y ↔ BeenV l n x y ∨ (x = PX l n ∧ y = PY l n) := by
  unfold BeenV
  constructor
  · intro ⟨j, h1, h2, h3⟩
    by_cases hj : j = n
    · subst hj; exact .inr ⟨h2.symm, h3.symm⟩
    · exact .inl ⟨j, by omega, h2, h3⟩
  · rintro (⟨j, h1, h2, h3⟩ | ⟨rfl, rfl⟩)
    · exact ⟨j, by omega, h2, h3⟩
    · exact ⟨n, by omega, rfl, rfl⟩
theorem keyedSet_put {D : DataW Unit} {x y : Int} (hf : Fit2 x y) (hT : Go.Maps.Tidy D) {V : Int → Int → Prop} (h : ∀ p q, Fit2 p q → (Maps.has D (klOf p q) = true ↔ V p q)) (d : DataW Unit) :
    (∀ p q, Fit2 p q → (Maps.has (D.put (klOf x y) d) (klOf p q) = true ↔ (V p q ∨ (p = x ∧ q = y)))) ∧ (V x y → Maps.size (D.put (klOf x y) d) = Maps.size D) ∧ (¬ V x y → Maps.size (D.put (klOf x y) d) = Maps.size D + 1) := by
  have hM := hT.isMap
  refine ⟨fun p q hpq => ?_, fun hv => ?_, fun hv => ?_⟩
  · by_cases e : klOf p q = klOf x y
    · obtain ⟨rfl, rfl⟩ := klOf_inj hpq hf e
      simp [Maps.has_put_same hM (klOf_isKey hf)]
    · rw [Maps.has_put_other e, h p q hpq]
      constructor
      · exact .inl
      · rintro (h' | ⟨rfl, rfl⟩)
        · exact h'
        · exact absurd rfl e
  · rw [Maps.size_put hT, if_pos ((h x y hf).2 hv)]
  · rw [Maps.size_put hT, if_neg (fun c => hv ((h x y hf).1 c))]

theorem run_makeMap_hint {P : Program} (w : World) {t k e : TypeId} (ht : P.underlying t = some (.map k e)) (n : Nat) (hn : n ≤ 1000) : (Instr.makeMap t (some (.int .i64 (n : Int)))).run P w = .ok (.map (some w.heap.size)) (w.alloc (.map #[] 0)) := by
  simp [Instr.makeMap, run_underlying ht, asInt, asIntOf, Result.andThen]

set_option maxHeartbeats 2000000 in
theorem allDifferent_c (l : List UInt8) (n g cap : Nat) (hn : n ≤ 1000) (w : World) (hg : g < w.heap.size) (hc : ∀ k, k < n → w.cell? ⟨g, k * 2, none⟩ = some (.int .i64 (PX l k)) ∧ w.cell? ⟨g, k * 2 + 1, none⟩ = some (.int .i64 (PY l k))) :
    Calls Tryd.prog 35 #[.slice (some ⟨g, 0, none⟩) n cap] w fun e w' => e = .returned (.bool (ap0 l n)) ∧ Below w.heap.size w w' := by
  have hmm := fun w => run_makeMap_hint w Tryd.underlying43 n hn
  have HC := hid hc
  clear hc
  go_enter Tryd.func35, Tryd.ntmps35
  go_wp2_with fail
  clear hmm
  have HB0 : Hid (Below w.heap.size w (w.alloc (.map #[] 0))) := hid ((Below.refl _ _).alloc (Nat.le_refl _) _)
  go_loopg [11] 2000 (fun gg i wr => ∃ k c : Nat, gg = 2000 - k ∧ k ≤ n ∧ i = .int .i64 k ∧ SetOf wr w.heap.size k (BeenV l k) c ∧ Hid (c ≤ k ∧ (c = k ↔ Ap0 l k)) ∧ Below w.heap.size w wr ∧ w.heap.size + 1 ≤ wr.heap.size)
  case atStart => exact ⟨0, 0, rfl, Nat.zero_le _, rfl, by have := SetOf.made w; refine ⟨this.choose, this.choose_spec.1, this.choose_spec.2.1, fun x y h => (this.choose_spec.2.2 x y h).trans ⟨False.elim, fun ⟨j, h, _⟩ => by omega⟩⟩, hid ⟨Nat.le_refl _, ⟨fun _ => Ap0_zero l, fun _ => rfl⟩⟩, HB0.out, by simp⟩
  case round =>
    clear HB0
    obtain ⟨k, c, hgg, hk, rfl, ⟨D, hown, hsz, hhas⟩, HCK, hL, hs1⟩ := hrel
    have HGG := hid hgg
    have HL := hid hL
    have HHas := hid hhas
    have HSZ := hid hsz
    have HT := hid (hown.tidy lawPlace)
    clear hgg hL hhas hsz
    by_cases hlt : k < n
    · have hlt' : (k : Int) < (n : Int) := by omega
      have hk0 : (0 : Int) ≤ (k : Int) := Int.natCast_nonneg _
      obtain ⟨hx0, hx1⟩ := PX_le l k
      obtain ⟨hy0, hy1⟩ := PY_le l k
      have q1 := (HL.out.cell (p := ⟨g, k * 2, none⟩) hg).trans (HC.out k hlt).1
      have q2 := (HL.out.cell (p := ⟨g, k * 2 + 1, none⟩) hg).trans (HC.out k hlt).2
      generalize hxx : PX l k = x at *
      have HXX := hid hxx
      generalize hyy : PY l k = y at *
      have HYY := hid hyy
      clear hxx hyy
      have HF : Hid (Fit2 x y) := hid ⟨⟨by omega, by omega⟩, by omega, by omega⟩
      have hkey := keyPlace HF.out
      go_wp2_with (first
        | (at_mapUpdate; refine wpList_mapUpdate_own _ rfl _ _ _ 43 rfl 50 51 lawPlace Tryd.underlying43 (unitElem (H := Unit)) w.heap.size k _ rfl (hown.alloc _) (by unfold maxLen; omega) _ _ _ rfl rfl hkey _ [] unitElem_mk ?_; intro w1 hown1 hgrow1))
      obtain ⟨p1, p2, p3⟩ := keyedSet_put HF.out HT.out HHas.out (.agg [])
      have hg1 := hgrow1.size
      simp at hg1
      go_roundg (2000 - (k + 1))
      case measure => rw [HGG.out]; omega
      case rel =>
        obtain ⟨hck, hca⟩ := HCK.out
        have hV : BeenV l k x y ↔ ∃ j, j < k ∧ PX l j = PX l k ∧ PY l j = PY l k := by rw [HXX.out, HYY.out]; rfl
        refine ⟨k + 1, Maps.size (D.put (klOf x y) (.agg [])), rfl, by omega, by go_num, ⟨_, hown1, rfl, fun a b h => (p1 a b h).trans ?_⟩, hid ?_, (HL.out.alloc (by omega) _).grown hgrow1 (by simp; omega) (fun j hj => by cases hj; exact Nat.le_refl _), by omega⟩
        · rw [BeenV_succ, HXX.out, HYY.out]
        · rw [Ap0_succ, ← hV]
          by_cases hv : BeenV l k x y
          · rw [p2 hv, HSZ.out]
            exact ⟨by omega, ⟨fun h => by omega, fun h => absurd hv h.2⟩⟩
          · rw [p3 hv, HSZ.out, ← hca]
            exact ⟨by omega, ⟨fun h => ⟨by omega, hv⟩, fun h => by omega⟩⟩
    · have hlt' : ¬ (k : Int) < (n : Int) := by omega
      have HKN : Hid (k = n) := hid (by omega)
      clear hlt hk
      go_wp2_with (first
        | (at_len; refine wpList_len_own _ rfl _ 43 rfl 50 51 Tryd.underlying43 _ w.heap.size k D rfl hown ?_))
      go_ret
      have e : (((Maps.size D : Nat) : Int) == ((n : Nat) : Int)) = ap0 l n := by
        obtain ⟨_, hca⟩ := HCK.out
        rw [HKN.out, ← HSZ.out] at hca
        rw [Bool.eq_iff_iff, ap0_iff, ← hca]
        simp
        omega
      refine ⟨?_, HL.out⟩
      rw [← e]
      rfl

theorem places_cells {B : Nat} {w : World} {v : Value} {l : List UInt8} {m : Nat} (h : Places B w v l m) : ∃ g cap, v = .slice (some ⟨g, 0, none⟩) m cap ∧ B ≤ g ∧ g < w.heap.size ∧ m ≤ cap ∧ cap ≤ maxLen ∧ ∀ k, k < m → w.cell? ⟨g, k * 2, none⟩ = some (.int .i64 (PX l k)) ∧ w.cell? ⟨g, k * 2 + 1, none⟩ = some (.int .i64 (PY l k)) := by
  obtain ⟨g, cap, rfl, ho⟩ := h
  obtain ⟨hg2, hg1⟩ := ho.lt g rfl
  refine ⟨g, cap, rfl, hg2, hg1, ?_, ?_, fun k hk => ?_⟩
  · obtain ⟨_, h⟩ := ho
    rcases h with h | ⟨_, _, _, h, _, _, h1, h2, _⟩
    · cases h.1
    · cases h; exact h1
  · obtain ⟨_, h⟩ := ho
    rcases h with h | ⟨_, _, _, h, _, _, h1, h2, _⟩
    · cases h.1
    · cases h; exact h2
  · have q1 := World.ownsRow.cellAt ho (2 * k) (by omega)
    have q2 := World.ownsRow.cellAt ho (2 * k + 1) (by omega)
    rw [(plc_get l m k hk).1] at q1
    rw [(plc_get l m k hk).2] at q2
    rw [Nat.mul_comm k 2]
    exact ⟨q1, q2⟩

set_option maxHeartbeats 2000000 in
theorem implSimpleOk_c (s : ByteArray) (hs : s.size ≤ maxLen) (w : World) (hd : Dirs w) :
    Calls Tryd.prog 13 #[.string s] w fun e w' => e = .returned (.bool (smL (lets s))) ∧ Below w.heap.size w w' := by
  have HD := hid hd
  clear hd
  go_enter Tryd.func13, Tryd.ntmps13
  go_wp2_with fail
  refine (implClosedOk_c s hs _ HD.out).mono ?_
  rintro e w1 ⟨rfl, hb1⟩
  have HB1 := hid hb1
  clear hb1
  cases hcl : clL (lets s) with
  | false =>
    have HN := hid (smL_open hcl)
    clear hcl
    go_wp2_with fail
    go_ret
    exact ⟨by rw [HN.out]; rfl, HB1.out⟩
  | true =>
    have HC := hid hcl
    have hlen : (lets s).length = s.size := by simp [lets]
    have h40 := wkL_len (clL_wk hcl)
    have h1 := clL_pos hcl
    rw [hlen] at h40 h1
    have HW : Hid ((lets s).all isStep = true) := hid (by have := clL_wk hcl; unfold wkL at this; simp only [Bool.and_eq_true] at this; exact this.2)
    clear hcl hlen
    go_wp2_with fail
    refine (placesOf_c s (by omega) HW.out _ (HD.out.below HB1.out)).mono ?_
    rintro e w2 ⟨v, rfl, hp, hb2⟩
    obtain ⟨g, cap, rfl, _, hg, hcap, hcap2, hcells⟩ := places_cells hp
    have HB2 := hid (HB1.out.trans (hb2.mono HB1.out.size))
    have HCL := hid hcells
    clear hp hb2 HB1 hcells
    go_wp2_with fail
    refine (allDifferent_c (lets s) s.size g cap (by omega) _ hg (fun k hk => HCL.out k (by omega))).mono ?_
    rintro e w3 ⟨rfl, hb3⟩
    have HB3 := hid (HB2.out.trans (hb3.mono HB2.out.size))
    clear hb3 HB2
    have HR : Hid (ap0 (lets s) s.size = smL (lets s)) := hid (by
      have hlen : (lets s).length = s.size := by simp [lets]
      have h := Ap0_apart HC.out
      rw [hlen] at h
      rw [Bool.eq_iff_iff, ap0_iff, h]
      exact ⟨smL_mk HC.out, smL_apart⟩)
    rw [HR.out]
    go_wp2_with fail
    go_ret
    exact ⟨rfl, HB3.out⟩
end Go.Proofs.YtkfmppjljdhogaaDoor
