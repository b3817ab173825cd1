/- Contract: placesOf: the places of a walk, one behind the other. -/
import Derived.Test.YtkfmppjljdhogaaDoorWkB
import Derived.Deep.RegionHeld3
import Derived.Deep.AppendLies
import Derived.Laws.OwnMore
import Derived.Deep.LoopGhost
namespace Go.Proofs.YtkfmppjljdhogaaDoor
open Go.RowKit TW

theorem infoPlace : (Tryd.prog.info? 50).map (fun i => (i.zero, i.size, i.bytes)) = some (some (.agg #[.int .i64 0, .int .i64 0]), 2, 16) := by kernel_rfl

/-- The cells of the first m places. -/
def plc (l : List UInt8) : Nat → List Value
  | 0 => []
  | k + 1 => plc l k ++ [.int .i64 (PX l k), .int .i64 (PY l k)]
theorem plc_len (l : List UInt8) : ∀ m, (plc l m).length = m * 2
  | 0 => rfl
  | m + 1 => by rw [plc, List.length_append, plc_len l m]; simp; omega
theorem plc_get (l : List UInt8) : ∀ (m k : Nat), k < m → (plc l m)[2 * k]? = some (.int .i64 (PX l k)) ∧ (plc l m)[2 * k + 1]? = some (.int .i64 (PY l k))
  | 0, k, h => by omega
  | m + 1, k, h => by
    have e := plc_len l m
    by_cases hk : k = m
    · subst hk
      unfold plc
      rw [List.getElem?_append_right (by omega), List.getElem?_append_right (by omega), e, show 2 * k - k * 2 = 0 from by omega, show 2 * k + 1 - k * 2 = 1 from by omega]
      exact ⟨rfl, rfl⟩
    · have ih := plc_get l m k (by omega)
      unfold plc
      rw [List.getElem?_append_left (by omega), List.getElem?_append_left (by omega)]
      exact ih

theorem plc_get' (l : List UInt8) (m k : Nat) (h : k < m) : (plc l m)[k * 2]? = some (.int .i64 (PX l k)) ∧ (plc l m)[k * 2 + 1]? = some (.int .i64 (PY l k)) := by rw [Nat.mul_comm k 2]; exact plc_get l m k h
/-- The places of a walk, in a row of the call's own. -/
def Places (B : Nat) (w : World) (v : Value) (l : List UInt8) (m : Nat) : Prop := ∃ g cap, v = .slice (some ⟨g, 0, none⟩) m cap ∧ w.ownsRow B 50 2 (.slice (some ⟨g, 0, none⟩) m cap) m (plc l m)

theorem made2 (a b : Value) (n : Nat) : (madeCells #[a, b] ((n + 1) * 2)).toList.take (1 * 2) = [a, b] := by
  apply List.ext_getElem?
  intro j
  match j with
  | 0 => have h : 0 < (n + 1) * 2 := by omega
         rw [List.getElem?_take, if_pos (by omega)]; simp [madeCells, h]
  | 1 => have h : 1 < (n + 1) * 2 := by omega
         rw [List.getElem?_take, if_pos (by omega)]; simp [madeCells, h]
  | j + 2 => rw [List.getElem?_take, if_neg (by omega)]; rfl
theorem make_places (w : World) (n : Nat) (hn : n ≤ 1000) : ∃ w1, (Instr.makeSlice 40 (.int .i64 1) (.int .i64 ((n : Int) + 1))).run Tryd.prog w = .ok (.slice (some ⟨w.heap.size, 0, none⟩) 1 (n + 1)) w1 ∧
    w1.ownsRow w.heap.size 50 2 (.slice (some ⟨w.heap.size, 0, none⟩) 1 (n + 1)) 1 (plc [] 1) ∧ w.grownBy w1 none := by
  obtain ⟨i0, hi, hz0, hz1, hz2⟩ := info_parts infoPlace
  have hrun := run_make (P := Tryd.prog) w 40 50 i0 _ Tryd.underlying40 hi hz0 .i64 .i64 1 ((n : Int) + 1) (by omega) (by omega) (by rw [hz2]; omega) (by omega)
  rw [hz1] at hrun
  have e1 : ((n : Int) + 1).toNat = n + 1 := by omega
  rw [e1] at hrun
  refine ⟨_, hrun, ⟨rfl, .inr ⟨w.heap.size, n + 1, _, rfl, Nat.le_refl _, heap_alloc_new w _, by omega, by unfold maxLen; omega, size_madeCells _ _, made2 _ _ _⟩⟩, World.grownBy_alloc _ _ _⟩

/-- An append within the capacity, as one step of a region that draws. -/
theorem step_append_fits {P : Program} {ops : Array Oper} {o : Oper} {a : Act} {w : World} {K : Act → World → Prop} {Q : Exit → Act → World → Prop} {E : Prop} (hgd : o.guard = none) (s x : Operand) (t : TypeId)
    (ho : o.op = .call { callee := .builtin .append, args := #[s, x], argTypes := #[t, t] })
    (base : Nat) (e : TypeId) (i : TypeInfo) (size : Nat) (ht : P.underlying t = some (.slice e)) (hi : P.info? e = some i) (hsize : i.size = size)
    (g n cap : Nat) (xs : List Value) (hs : a.eval s = .slice (some ⟨g, 0, none⟩) n cap) (hown : w.ownsRow base e size (.slice (some ⟨g, 0, none⟩) n cap) n xs)
    (ad : Addr) (m c : Nat) (news : List Value) (hx : a.eval x = .slice (some ad) m c) (hl : news.length = m * size) (hnews : ∀ j u, news[j]? = some u → w.cell? (ad.add j) = some u) (h1 : ∀ u ∈ news, u.oneCell' = true)
    (hroom : n + m ≤ cap)
    (h : ∀ w', w'.ownsRow base e size (.slice (some ⟨g, 0, none⟩) (n + m) cap) (n + m) (xs ++ news) → w.grownBy w' (some g) → K (a.put o.dst (.slice (some ⟨g, 0, none⟩) (n + m) cap)) w') :
    if Region.wanted o (yielded ops a.tmps) = true then Oper.wp P o a w K Q else E := by
  have hw : Region.wanted o (yielded ops a.tmps) = true := by simp [Region.wanted, hgd]
  rw [if_pos hw]
  obtain ⟨w', hrun, r1, r2⟩ := run_append_fits (P := P) w base t o.type e i size ht hi hsize g n cap xs hown ad m c news hl hnews h1 hroom
  unfold Oper.wp
  simp [execOp, ho, resolve, invoke, builtin, hs, hx, hrun, Result.andThen]
  exact h w' r1 r2

theorem _root_.Go.World.grownBy_none_of {wr w1 : World} (hb : Below wr.heap.size wr w1) : wr.grownBy w1 none := ⟨hb.os, hb.tape, hb.output, hb.size, fun k hk _ => hb.block k hk⟩

set_option maxHeartbeats 2000000 in
theorem placesOf_c (s : ByteArray) (hs : s.size ≤ 1000) (hok : (lets s).all isStep = true) (w : World) (hd : Dirs w) :
    Calls Tryd.prog 34 #[.string s] w fun e w' => ∃ v, e = .returned v ∧ Places w.heap.size w' v (lets s) (s.size + 1) ∧ Below w.heap.size w w' := by
  have HD := hid hd
  obtain ⟨i0, hi, hz0, hz1, hz2⟩ := info_parts infoPlace
  obtain ⟨w1, hmk, hown, hgr⟩ := make_places w s.size hs
  have HO := hid hown
  have HG := hid hgr
  clear hd hown hgr
  go_enter Tryd.func34, Tryd.ntmps34
  go_wp2_with fail
  clear hmk
  have hal : ∀ k (h : k < s.size), isStep s[k] = true := fun k h => by
    rw [List.all_eq_true] at hok
    exact hok _ (by have := take_snoc s k h; exact List.mem_of_mem_take (i := k + 1) (by rw [this]; simp))
  have HA := hid hal
  clear hal
  have HB0 : Hid (Below w.heap.size w w1) := (Below.refl _ _).grown HG.out (Nat.le_refl _) (fun k hk => by cases hk)
  go_loopg [3, 4] 2000 (fun gg v i wr => ∃ (k m : Nat), gg = 2000 - k ∧ k ≤ s.size ∧ i = .int .i64 k ∧ v = .slice (some ⟨w.heap.size, 0, none⟩) m (s.size + 1) ∧ Hid (m = k + 1) ∧ wr.ownsRow w.heap.size 50 2 (.slice (some ⟨w.heap.size, 0, none⟩) m (s.size + 1)) m (plc (lets s) m) ∧ Below w.heap.size w wr)
  case atStart => exact ⟨0, 1, rfl, Nat.zero_le _, rfl, rfl, hid rfl, HO.out, HB0.out⟩
  case round =>
    clear HO HG HB0
    obtain ⟨k, m, hgg, hk, rfl, rfl, HMK, hO, hL⟩ := hrel
    have HGG := hid hgg
    have HO := hid hO
    have HL := hid hL
    clear hgg hL
    by_cases hlt : k < s.size
    · have hmk := HMK.out
      have hm1 : m ≤ s.size := by omega
      have hkm : k < m := by omega
      clear hmk
      have q1 := World.ownsRow.cellAt hO (2 * k) (by omega)
      have q2 := World.ownsRow.cellAt hO (2 * k + 1) (by omega)
      rw [(plc_get (lets s) m k hkm).1] at q1
      rw [(plc_get (lets s) m k hkm).2] at q2
      have hx := PX_le (lets s) k
      have hy := PY_le (lets s) k
      obtain ⟨hx0, hx1⟩ := hx
      obtain ⟨hy0, hy1⟩ := hy
      have HX := hid (PX_succ (lets s) k)
      have HY := hid (PY_succ (lets s) k)
      rw [at0_lets hlt] at HX HY
      have HS := hid (dx_look (HA.out k hlt))
      clear hO
      generalize hxx : PX (lets s) k = x at *
      have HXX := hid hxx
      clear hxx
      generalize hyy : PY (lets s) k = y at *
      have HYY := hid hyy
      clear hyy
      have HC1 := hid (fun w => directionOf_c s[k] w)
      have HC2 := hid (fun w hd => stepped_c x y (lkB s[k]) ⟨by omega, by omega⟩ ⟨by omega, by omega⟩ ⟨HS.out.2.2.1, HS.out.2.2.2⟩ w hd)
      have i0' : (0 : Int) ≤ (k : Int) := Int.natCast_nonneg _
      have i1' : (k : Int) < (m : Int) := by omega
      rw [Nat.mul_comm 2 k] at q1 q2
      have i2' : (k : Int) < (s.size : Int) := by omega
      go_wp2_with fail
      have hsz0 := HL.out.size
      have hg0 : w.heap.size < wr.heap.size := World.block_lt_of_cell? wr _ q1
      have hm2 : m + 1 ≤ maxLen := by unfold maxLen; omega
      have HP : Hid (plc (lets s) (m + 1) = plc (lets s) m ++ [.int .i64 (x + dxI (lkB s[k])), .int .i64 (y + dyI (lkB s[k]))]) := by
        have e := HMK.out
        rw [HS.out.1, HS.out.2.1, ← HX.out, ← HY.out, ← e]; rfl
      go_region_held3 (fun w' => w'.cell? ⟨w.heap.size, k * 2, none⟩ = some (.int .i64 x) ∧ w'.cell? ⟨w.heap.size, k * 2 + 1, none⟩ = some (.int .i64 y))
        (first | exact ⟨q1, q2⟩ | exact ⟨(World.cell?_alloc_lt _ _ _ hg1).trans q1, (World.cell?_alloc_lt _ _ _ hg1).trans q2⟩)
        (first
          | (go_at_call 50; refine (HC1.out _).mono ?_; rintro e w1 ⟨rfl, rfl⟩)
          | (go_at_call 49; refine (HC2.out _ (HD.out.below HL.out.drew)).mono ?_; rintro e w1 ⟨rfl, hb1⟩; have HO := hid ((HO.out.drew).kept (World.grownBy_none_of hb1) (Or.inr (by simp [Value.ownBlock]))); have HL := hid (HL.out.drew.trans (hb1.mono (by simpa using hsz0))); have hsz1 := HL.out.size; have q1 := (hb1.cell (p := ⟨w.heap.size, k * 2, none⟩) hg0).trans q1; have q2 := (hb1.cell (p := ⟨w.heap.size, k * 2 + 1, none⟩) hg0).trans q2; have hg1 : w.heap.size < w1.heap.size := Nat.lt_of_lt_of_le hg0 hb1.size; clear hb1)
          | (refine step_append_fits (by rfl) _ _ _ (by rfl) w.heap.size 50 i0 2 Tryd.underlying40 hi hz1 w.heap.size m (s.size + 1) (plc (lets s) m) (by rfl) (HO.out.alloc _) ⟨w1.heap.size, 0, none⟩ 1 1 [.int .i64 (x + dxI (lkB s[k])), .int .i64 (y + dyI (lkB s[k]))] (by rfl) (by rfl) (World.news_of_block (cs := #[.int .i64 (x + dxI (lkB s[k])), .int .i64 (y + dyI (lkB s[k]))]) (t := 50) (fr := (0, 0)) (heap_alloc_new w1 _)) (by simp [Value.oneCell']) (by omega) ?_; intro w2 hown1 hgrow; rw [← HP.out] at hown1; have HO2 := hid hown1; have HL2 := hid ((HL.out.alloc hsz1 _).grown hgrow (by simp; omega) (fun j hj => by cases hj; exact Nat.le_refl _)); have q1 := (World.ownsRow.cellAt hown1 (k * 2) (by omega)).trans (plc_get' (lets s) (m + 1) k (by omega)).1; have q2 := (World.ownsRow.cellAt hown1 (k * 2 + 1) (by omega)).trans (plc_get' (lets s) (m + 1) k (by omega)).2; rw [HXX.out] at q1; rw [HYY.out] at q2; clear hown1 hgrow))
      go_wp2_with fail
      go_roundg (2000 - (k + 1))
      case measure => rw [HGG.out]; omega
      case rel => exact ⟨k + 1, m + 1, rfl, by omega, by go_num, rfl, hid (by rw [HMK.out]), HO2.out, HL2.out⟩
    · have hlt' : ¬ (k : Int) < (s.size : Int) := by omega
      have HKK : Hid (k = s.size) := hid (by omega)
      clear hO hlt hk
      go_wp2_with fail
      go_ret
      obtain rfl := HKK.out
      refine ⟨_, rfl, ⟨w.heap.size, s.size + 1, ?_, ?_⟩, HL.out⟩
      · rw [HMK.out]; rfl
      · have := HO.out
        rw [HMK.out] at this
        exact this
end Go.Proofs.YtkfmppjljdhogaaDoor
