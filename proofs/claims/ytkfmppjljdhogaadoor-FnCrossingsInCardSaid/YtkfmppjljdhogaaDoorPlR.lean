/- Contract: PlacesOf of the reference: rows of two numbers, one for each place. -/
import Derived.Test.YtkfmppjljdhogaaDoorSpA
import Derived.Test.YtkfmppjljdhogaaDoorWkC
namespace Go.Proofs.YtkfmppjljdhogaaDoor
open Go.RowKit TW

theorem infoIS : (Tryd.prog.info? 56).map (fun i => (i.zero, i.size, i.bytes)) = some (some (.slice none 0 0), 1, 24) := by kernel_rfl

/-- The row of place j. -/
def RowOf (B : Nat) (W : World) (l : List UInt8) (j : Nat) (u : Value) : Prop := ∃ r, u = .slice (some ⟨r, 0, none⟩) 2 2 ∧ B ≤ r ∧ W.heap[r]? = some (.cells #[.int .i64 (PX l j), .int .i64 (PY l j)] 3 (0, 0))
/-- The rows gathered so far, all of the call's own. -/
def RowsI (w0 W : World) (v : Value) (n : Nat) (l : List UInt8) (vs : List Value) : Prop :=
  vs.length = n ∧ W.ownsRow w0.heap.size 56 1 v n vs ∧ Below w0.heap.size w0 W ∧ ∀ j u, vs[j]? = some u → RowOf w0.heap.size W l j u
theorem ownsRow_behind {B size n : Nat} {t : TypeId} {wr w1 : World} {v : Value} {xs : List Value} (h : wr.ownsRow B t size v n xs) (hb : Below wr.heap.size wr w1) : w1.ownsRow B t size v n xs :=
  h.kept (World.grownBy_none_of hb) (by cases h : v.ownBlock with | none => exact Or.inl rfl | some _ => exact Or.inr (by simp))
theorem heap_lt {W : World} {r : Nat} {o : Obj} (h : W.heap[r]? = some o) : r < W.heap.size := (Array.getElem?_eq_some_iff.1 h).1
theorem RowsI.behind {w0 W W1 : World} {v : Value} {n : Nat} {l : List UInt8} {vs : List Value} (h : RowsI w0 W v n l vs) (hb : Below W.heap.size W W1) : RowsI w0 W1 v n l vs := by
  obtain ⟨h1, h2, h3, h4⟩ := h
  refine ⟨h1, ownsRow_behind h2 hb, h3.trans (hb.mono h3.size), fun j u hj => ?_⟩
  obtain ⟨r, e1, e2, e3⟩ := h4 j u hj
  exact ⟨r, e1, e2, (hb.block r (heap_lt e3)).trans e3⟩
theorem RowsI.start (w : World) (l : List UInt8) : RowsI w ((w.alloc (.cells #[.int .i64 0, .int .i64 0] 3)).alloc (.cells #[.slice (some ⟨w.heap.size, 0, none⟩) 2 2] 56)) (.slice (some ⟨w.heap.size + 1, 0, none⟩) 1 1) 1 l [.slice (some ⟨w.heap.size, 0, none⟩) 2 2] := by
  refine ⟨rfl, ⟨rfl, .inr ⟨w.heap.size + 1, 1, #[.slice (some ⟨w.heap.size, 0, none⟩) 2 2], rfl, by omega, ?_, Nat.le_refl _, by unfold maxLen; omega, rfl, rfl⟩⟩, ((Below.refl _ _).alloc (Nat.le_refl _) _).alloc (by simp) _, fun j u hj => ?_⟩
  · have := heap_alloc_new (w.alloc (.cells #[.int .i64 0, .int .i64 0] 3)) (.cells #[.slice (some ⟨w.heap.size, 0, none⟩) 2 2] 56)
    simpa using this
  · match j, hj with
    | 0, hj =>
      obtain rfl := Option.some.inj hj
      refine ⟨w.heap.size, rfl, Nat.le_refl _, ?_⟩
      rw [Below.heap_alloc _ _ _ (by simp), heap_alloc_new]
      rfl
theorem rows_ne {w0 W : World} {v : Value} {n r j : Nat} {l : List UInt8} {vs : List Value} (h : W.ownsRow w0.heap.size 56 1 v n vs) (hr : W.heap[r]? = some (.cells #[.int .i64 (PX l j), .int .i64 (PY l j)] 3 (0, 0))) : some r ≠ v.ownBlock := fun e => by
  rcases h.2 with ⟨hv, _⟩ | ⟨g, cap, cur, hv, _, hg, _⟩
  · rw [hv] at e; cases e
  · rw [hv] at e
    obtain rfl : r = g := Option.some.inj e
    rw [hr] at hg
    have := Option.some.inj hg
    injection this with _ h2 _
    exact absurd h2 (by decide)
/-- One row more. -/
theorem RowsI.push {w0 W W' : World} {v v' : Value} {n : Nat} {l : List UInt8} {vs : List Value} (h : RowsI w0 W v n l vs)
    (hown : W'.ownsRow w0.heap.size 56 1 v' (n + 1) (vs ++ [.slice (some ⟨W.heap.size, 0, none⟩) 2 2]))
    (hg : ((W.alloc (.cells #[.int .i64 (PX l n), .int .i64 (PY l n)] 3)).alloc (.cells #[.slice (some ⟨W.heap.size, 0, none⟩) 2 2] 56)).grownBy W' v.ownBlock) :
    RowsI w0 W' v' (n + 1) l (vs ++ [.slice (some ⟨W.heap.size, 0, none⟩) 2 2]) := by
  obtain ⟨h1, h2, h3, h4⟩ := h
  have hlt := fun k hk => h2.lt k hk
  have hs := h3.size
  have e1 : ∀ r, r < W.heap.size → ((W.alloc (.cells #[.int .i64 (PX l n), .int .i64 (PY l n)] 3)).alloc (.cells #[.slice (some ⟨W.heap.size, 0, none⟩) 2 2] 56)).heap[r]? = W.heap[r]? := fun r hr => by
    rw [Below.heap_alloc _ _ _ (by simp; omega), Below.heap_alloc _ _ _ hr]
  refine ⟨by rw [List.length_append, h1]; rfl, hown, ((h3.alloc hs _).alloc (by simp; omega) _).grown hg (by simp; omega) (fun k hk => (hlt k hk).1), fun j u hj => ?_⟩
  by_cases hjn : j < vs.length
  · rw [List.getElem?_append_left hjn] at hj
    obtain ⟨r, f1, f2, f3⟩ := h4 j u hj
    have hr := heap_lt f3
    exact ⟨r, f1, f2, (hg.block r (by simp; omega) (rows_ne h2 f3)).trans ((e1 r hr).trans f3)⟩
  · rw [List.getElem?_append_right (by omega)] at hj
    have hj0 : j = n := by
      have := (List.getElem?_eq_some_iff.1 hj).1
      simp at this
      omega
    subst hj0
    rw [← h1, Nat.sub_self] at hj
    obtain rfl := Option.some.inj hj
    refine ⟨W.heap.size, rfl, hs, ?_⟩
    rw [hg.block _ (by simp; omega) (fun e => by have := hlt _ e.symm; omega), Below.heap_alloc _ _ _ (by simp), heap_alloc_new]

theorem row_news (W : World) (cs : Array Value) (u : Value) (t t' : TypeId) : ∀ (j : Nat) (v : Value), [u][j]? = some v → ((W.alloc (.cells cs t)).alloc (.cells #[u] t')).cell? ((⟨W.heap.size + 1, 0, none⟩ : Addr).add j) = some v := by
  intro j v hj
  have hh : ((W.alloc (.cells cs t)).alloc (.cells #[u] t')).heap[W.heap.size + 1]? = some (.cells #[u] t' (0, 0)) := by
    have := heap_alloc_new (W.alloc (.cells cs t)) (.cells #[u] t')
    simpa using this
  exact World.news_of_block (cs := #[u]) (t := t') (fr := (0, 0)) hh j v hj

/-- What a finished list of rows looks like. -/
def RowsV (W : World) (v : Value) (l : List UInt8) (n : Nat) : Prop :=
  ∃ g cap, v = .slice (some ⟨g, 0, none⟩) n cap ∧ n ≤ cap ∧ cap ≤ maxLen ∧ g < W.heap.size ∧ ∀ k, k < n → ∃ r, r < W.heap.size ∧ W.cell? ⟨g, k, none⟩ = some (.slice (some ⟨r, 0, none⟩) 2 2) ∧ W.cell? ⟨r, 0, none⟩ = some (.int .i64 (PX l k)) ∧ W.cell? ⟨r, 1, none⟩ = some (.int .i64 (PY l k))
theorem RowsV.behind {W W1 : World} {v : Value} {l : List UInt8} {n : Nat} (h : RowsV W v l n) (hb : Below W.heap.size W W1) : RowsV W1 v l n := by
  obtain ⟨g, cap, h1, h2, h3, h4, h5⟩ := h
  refine ⟨g, cap, h1, h2, h3, Nat.lt_of_lt_of_le h4 hb.size, fun k hk => ?_⟩
  obtain ⟨r, f1, f2, f3, f4⟩ := h5 k hk
  exact ⟨r, Nat.lt_of_lt_of_le f1 hb.size, (hb.cell (p := ⟨g, k, none⟩) h4).trans f2, (hb.cell (p := ⟨r, 0, none⟩) f1).trans f3, (hb.cell (p := ⟨r, 1, none⟩) f1).trans f4⟩
theorem RowsI.cells {w0 W : World} {g cap n : Nat} {l : List UInt8} {vs : List Value} (h : RowsI w0 W (.slice (some ⟨g, 0, none⟩) n cap) n l vs) {k : Nat} (hk : k < n) :
    ∃ r, r < W.heap.size ∧ r ≠ g ∧ W.cell? ⟨g, k, none⟩ = some (.slice (some ⟨r, 0, none⟩) 2 2) ∧ W.cell? ⟨r, 0, none⟩ = some (.int .i64 (PX l k)) ∧ W.cell? ⟨r, 1, none⟩ = some (.int .i64 (PY l k)) := by
  obtain ⟨h1, h2, h3, h4⟩ := h
  have hv : vs[k]? = some vs[k] := List.getElem?_eq_getElem (by omega)
  obtain ⟨r, e1, e2, e3⟩ := h4 k _ hv
  have q := World.ownsRow.cellAt h2 k (by omega)
  rw [hv, e1] at q
  refine ⟨r, heap_lt e3, fun e => rows_ne h2 e3 (by rw [e]; rfl), q, ?_, ?_⟩
  · exact World.news_of_block (cs := #[.int .i64 (PX l k), .int .i64 (PY l k)]) (t := 3) (fr := (0, 0)) e3 0 _ rfl
  · exact World.news_of_block (cs := #[.int .i64 (PX l k), .int .i64 (PY l k)]) (t := 3) (fr := (0, 0)) e3 1 _ rfl
theorem RowsI.view {w0 W : World} {v : Value} {n : Nat} {l : List UInt8} {vs : List Value} (h : RowsI w0 W v n l vs) (hn : 0 < n) : RowsV W v l n := by
  have h' := h
  obtain ⟨h1, h2, h3, h4⟩ := h
  rcases h2.2 with ⟨hv, h0⟩ | ⟨g, cap, cur, hv, hb, hg, hle, hm, _⟩
  · omega
  · subst hv
    exact ⟨g, cap, rfl, hle, hm, heap_lt hg, fun k hk => by obtain ⟨r, f0, _, f⟩ := h'.cells hk; exact ⟨r, f0, f⟩⟩
theorem RowsI.head {w0 W : World} {v : Value} {n : Nat} {l : List UInt8} {vs : List Value} (h : RowsI w0 W v n l vs) (hn : 0 < n) : ∃ g cap, v = .slice (some ⟨g, 0, none⟩) n cap ∧ g < W.heap.size := by
  obtain ⟨g, cap, h1, _, _, h4, _⟩ := h.view hn
  exact ⟨g, cap, h1, h4⟩

/-- What PlacesOf hands back: the rows of a walk; none for others. -/
def PlPost (W : World) (v : Value) (l : List UInt8) : Prop := (wkL l = true → RowsV W v l (l.length + 1)) ∧ (wkL l = false → ∃ ad cap, v = .slice ad 0 cap)

set_option maxHeartbeats 4000000 in
theorem specPlacesOf_c (s : ByteArray) (hs : s.size ≤ maxLen) (w : World) :
    Calls Tryd.prog 41 #[.string s] w fun e w' => ∃ v, e = .returned v ∧ Below w.heap.size w w' ∧ PlPost w' v (lets s) := by
  cases hok : wkL (lets s) with
  | false =>
    have HK := hid hok
    clear hok
    go_enter Tryd.func41, Tryd.ntmps41
    go_wp2_with fail
    refine (specWalkOk_c s hs _).mono ?_
    rintro e w1 ⟨rfl, rfl⟩
    rw [HK.out]
    go_wp2_with fail
    go_ret
    exact ⟨_, rfl, (Below.refl _ _).alloc (Nat.le_refl _) _, fun h => (by rw [HK.out] at h; cases h), fun _ => ⟨_, _, rfl⟩⟩
  | true =>
    have HK := hid hok
    have h40 := wkL_len hok
    rw [lets_len] at h40
    have hal : ∀ k (h : k < s.size), isStep s[k] = true := fun k h => by
      have hok := wk_all hok
      rw [List.all_eq_true] at hok
      exact hok _ (by have := take_snoc s k h; exact List.mem_of_mem_take (i := k + 1) (by rw [this]; simp))
    have HA := hid hal
    obtain ⟨i0, hi, hz0, hz1, hz2⟩ := info_parts infoIS
    clear hok hal
    go_enter Tryd.func41, Tryd.ntmps41
    go_wp2_with fail
    refine (specWalkOk_c s hs _).mono ?_
    rintro e w1 ⟨rfl, rfl⟩
    rw [HK.out]
    clear hs
    go_wp2_with fail
    go_loopg [3, 4] 100 (fun gg v i wr => ∃ (k m g cap : Nat) (vs : List Value), gg = 100 - k ∧ k ≤ s.size ∧ i = .int .i64 k ∧ v = .slice (some ⟨g, 0, none⟩) m cap ∧ Hid (m = k + 1) ∧ RowsI w wr (.slice (some ⟨g, 0, none⟩) m cap) m (lets s) vs)
    case atStart => exact ⟨0, 1, w.heap.size + 1, 1, _, rfl, Nat.zero_le _, rfl, rfl, hid rfl, RowsI.start w (lets s)⟩
    case round =>
      obtain ⟨k, m, g, cap, vs, hgg, hk, rfl, rfl, HMK, hR⟩ := hrel
      have HGG := hid hgg
      have HR := hid hR
      clear hgg
      by_cases hlt : k < s.size
      · have hmk := HMK.out
        have hkm : k < m := by omega
        have hm41 : m ≤ 41 := by omega
        clear hmk
        obtain ⟨r, hr, hrg, q0, q1, q2⟩ := hR.cells hkm
        obtain ⟨hx0, hx1⟩ := PX_le (lets s) k
        obtain ⟨hy0, hy1⟩ := PY_le (lets s) k
        have HX := hid (PX_succ (lets s) k)
        have HY := hid (PY_succ (lets s) k)
        rw [at0_lets hlt] at HX HY
        have HS := hid (dx_look (HA.out k hlt))
        have HDX := hid (dxB_le s[k])
        have HDY := hid (dyB_le s[k])
        clear hR
        generalize PX (lets s) k = x at *
        generalize PY (lets s) k = y at *
        have HC1 := hid (fun w => l4Look_c s[k] w)
        have HE : Hid (∀ w, _) := hid (fun w => l1East_c (lkB s[k]) ⟨HS.out.2.2.1, HS.out.2.2.2⟩ w)
        have HN : Hid (∀ w, _) := hid (fun w => l1North_c (lkB s[k]) ⟨HS.out.2.2.1, HS.out.2.2.2⟩ w)
        have k0 : (0 : Int) ≤ (k : Int) := Int.natCast_nonneg _
        have i1' : (k : Int) < (m : Int) := by omega
        have i2' : (k : Int) < (s.size : Int) := by omega
        have HM := hid (HR.out.behind (Below.refl _ _).drew)
        have bd1 : -1 ≤ dxI (lkB s[k]) ∧ dxI (lkB s[k]) ≤ 1 := by rw [HS.out.1]; exact HDX.out
        have bd2 : -1 ≤ dyI (lkB s[k]) ∧ dyI (lkB s[k]) ≤ 1 := by rw [HS.out.2.1]; exact HDY.out
        obtain ⟨bd1, bd3⟩ := bd1
        obtain ⟨bd2, bd4⟩ := bd2
        have wr1 := IntWalk.i64_in (x + dxI (lkB s[k])) (by omega)
        have wr2 := IntWalk.i64_in (y + dyI (lkB s[k])) (by omega)
        go_wp2_with (go_at_call 43; refine (HC1.out _).mono ?_; rintro e w1 ⟨rfl, rfl⟩)
        go_region_held3 (fun w' => w'.cell? ⟨r, 0, none⟩ = some (.int .i64 x) ∧ w'.cell? ⟨r, 1, none⟩ = some (.int .i64 y))
          (first | exact ⟨q1, q2⟩ | exact ⟨(World.cell?_alloc_lt _ _ _ hr).trans q1, (World.cell?_alloc_lt _ _ _ hr).trans q2⟩ | exact ⟨(World.cell?_alloc_lt _ _ _ (by simp; omega)).trans ((World.cell?_alloc_lt _ _ _ hr).trans q1), (World.cell?_alloc_lt _ _ _ (by simp; omega)).trans ((World.cell?_alloc_lt _ _ _ hr).trans q2)⟩)
          (first
            | (go_at_call 53; refine (HE.out _).mono ?_; rintro e w1 ⟨rfl, hb1⟩; have HM := hid (HM.out.behind hb1); have q1 := (hb1.cell (p := ⟨r, 0, none⟩) hr).trans q1; have q2 := (hb1.cell (p := ⟨r, 1, none⟩) hr).trans q2; have hr := Nat.lt_of_lt_of_le hr hb1.size; clear hb1)
            | (go_at_call 54; refine (HN.out _).mono ?_; rintro e w1 ⟨rfl, hb1⟩; have HM := hid (HM.out.behind hb1); have q1 := (hb1.cell (p := ⟨r, 0, none⟩) hr).trans q1; have q2 := (hb1.cell (p := ⟨r, 1, none⟩) hr).trans q2; have hr := Nat.lt_of_lt_of_le hr hb1.size; clear hb1)
            | (refine step_append_lies _ (by rfl) _ _ _ (by rfl) w.heap.size 56 i0 (.slice none 0 0) 1 24 Tryd.underlying54 hi hz0 hz1 hz2 rfl (by decide) _ m vs (by rfl) ((HM.out.2.1.alloc _).alloc _) ⟨w1.heap.size + 1, 0, none⟩ 1 1 [.slice (some ⟨w1.heap.size, 0, none⟩) 2 2] (by rfl) (by rfl) (row_news w1 _ _ _ _) (by simp [Value.oneCell']) (by decide) (by unfold maxLen; omega) (by omega) (by have := HM.out.2.2.1.size; simp; omega) (w1.heap.size + 2) (by simp) ?_; intro g2 cap2 w2 hown2 hgrow hw2 hlt2; have HO2 := hid hown2; have HG2 := hid hgrow; have q1 := hgrow.cell (a := ⟨r, 0, none⟩) ((World.cell?_alloc_lt _ _ _ (by simp; omega)).trans ((World.cell?_alloc_lt _ _ _ hr).trans q1)) (by simp [Value.ownBlock, hrg]); have q2 := hgrow.cell (a := ⟨r, 1, none⟩) ((World.cell?_alloc_lt _ _ _ (by simp; omega)).trans ((World.cell?_alloc_lt _ _ _ hr).trans q2)) (by simp [Value.ownBlock, hrg]); clear hown2 hgrow hw2 hlt2))
        have hP : RowsI w w2 (.slice (some ⟨g2, 0, none⟩) (m + 1) cap2) (m + 1) (lets s) (vs ++ [.slice (some ⟨w1.heap.size, 0, none⟩) 2 2]) := by
          refine RowsI.push HM.out HO2.out ?_
          have e1 : PX (lets s) m = x + dxI (lkB s[k]) := by rw [HMK.out, HX.out, HS.out.1]
          have e2 : PY (lets s) m = y + dyI (lkB s[k]) := by rw [HMK.out, HY.out, HS.out.2.1]
          rw [e1, e2]
          exact HG2.out
        have HP := hid hP
        clear hP q0 q1 q2 wr1 wr2 bd1 bd2 bd3 bd4
        go_wp2_with fail
        go_roundg (100 - (k + 1))
        case measure => rw [HGG.out]; omega
        case rel => exact ⟨k + 1, m + 1, g2, cap2, _, rfl, by omega, by go_num, rfl, hid (by rw [HMK.out]), HP.out⟩
      · have HKK : Hid (k = s.size) := hid (by omega)
        have hlt' : ¬ (k : Int) < (s.size : Int) := by omega
        clear hlt hk hR
        go_wp2_with fail
        go_ret
        have hv := HR.out.view (by have := HMK.out; omega)
        have e : m = s.size + 1 := by rw [HMK.out, HKK.out]
        subst e
        exact ⟨_, rfl, HR.out.2.2.1, fun _ => (by rw [lets_len]; exact hv), fun h => (by rw [HK.out] at h; cases h)⟩
end Go.Proofs.YtkfmppjljdhogaaDoor
