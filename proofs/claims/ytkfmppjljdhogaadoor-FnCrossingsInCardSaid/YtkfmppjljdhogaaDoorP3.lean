/- Walks begun elsewhere, walked back, and one behind the other. Plain Lean. -/
import Derived.Test.YtkfmppjljdhogaaDoorP2
namespace Go.Proofs.TW

/-! ### begun elsewhere -/
def movedL (l : List UInt8) (k : Nat) : List UInt8 := l.drop k ++ l.take k
theorem moved_len (l : List UInt8) (k : Nat) : (movedL l k).length = l.length := by unfold movedL; simp; omega
theorem moved_at {l : List UInt8} {k : Nat} (hk : k < l.length) {j : Nat} (hj : j < l.length) : at0 (movedL l k) j = at0 l ((k + j) % l.length) := by
  unfold at0 movedL
  rw [List.getD_eq_getElem?_getD, List.getD_eq_getElem?_getD]
  by_cases h : k + j < l.length
  · rw [Nat.mod_eq_of_lt h, List.getElem?_append_left (by simp; omega), List.getElem?_drop]
  · rw [List.getElem?_append_right (by simp; omega), List.length_drop, Nat.mod_eq_sub_mod (by omega), Nat.mod_eq_of_lt (by omega), List.getElem?_take, if_pos (by omega)]
    congr 2; omega
theorem moved_P {l : List UInt8} (h : clL l = true) {k : Nat} (hk : k < l.length) : ∀ j : Nat, j ≤ l.length → PX (movedL l k) j = RX l (k + j) - RX l k ∧ PY (movedL l k) j = RY l (k + j) - RY l k
  | 0, _ => by rw [PX_zero, PY_zero]; simp
  | j + 1, hj => by
    have ih := moved_P h hk j (by omega)
    have s := R_succ h (k + j)
    rw [PX_succ, PY_succ, moved_at hk (by omega), show k + (j + 1) = k + j + 1 from rfl]
    omega
theorem moved_cl {l : List UInt8} (h : clL l = true) {k : Nat} (hk : k < l.length) : clL (movedL l k) = true := by
  have p := moved_P h hk l.length (Nat.le_refl _)
  have q := (loop_of h).per k
  refine clL_mk ?_ (by rw [moved_len]; exact clL_pos h) (by rw [moved_len]; omega) (by rw [moved_len]; omega)
  have w := clL_wk h
  unfold wkL at w ⊢
  simp only [Bool.and_eq_true, decide_eq_true_eq, List.all_eq_true] at w ⊢
  refine ⟨by rw [moved_len]; exact w.1, fun x hx => w.2 x ?_⟩
  unfold movedL at hx
  rcases List.mem_append.1 hx with hx | hx
  · exact List.mem_of_mem_drop hx
  · exact List.mem_of_mem_take hx
theorem moved_R {l : List UInt8} (h : clL l = true) {k : Nat} (hk : k < l.length) (j : Nat) : RX (movedL l k) j = RX l (k + j) - RX l k ∧ RY (movedL l k) j = RY l (k + j) - RY l k := by
  have p := moved_P h hk (j % l.length) (by have := Nat.mod_lt j (clL_pos h); omega)
  have e : RX (movedL l k) j = PX (movedL l k) (j % l.length) ∧ RY (movedL l k) j = PY (movedL l k) (j % l.length) := by unfold RX RY; rw [moved_len]; exact ⟨rfl, rfl⟩
  have m : RX l (k + j % l.length) = RX l (k + j) ∧ RY l (k + j % l.length) = RY l (k + j) := by unfold RX RY; rw [Nat.add_mod_mod]; exact ⟨rfl, rfl⟩
  rw [e.1, e.2, ← m.1, ← m.2]; exact p
theorem moved_wd {l : List UInt8} (h : clL l = true) {k : Nat} (hk : k < l.length) (a b : Int) : wdL (movedL l k) (a - PX l k) (b - PY l k) = wdL l a b := by
  have r := R_end h (k := k) (by omega)
  rw [← wind_eq (moved_cl h hk), ← wind_eq h, moved_len, ← r.1, ← r.2]
  unfold wind
  rw [← sumTo_shift (rayE_per (loop_of h) a b) k]
  refine sumTo_congr (fun j hj => ?_)
  have m0 := moved_R h hk j
  have m1 := moved_R h hk (j + 1)
  unfold rayE
  rw [m0.1, m0.2, m1.2, show k + (j + 1) = k + j + 1 from rfl]
  by_cases g : min (RY l (k + j)) (RY l (k + j + 1)) = b ∧ a < RX l (k + j)
  · rw [if_pos g, if_pos (by omega)]; omega
  · rw [if_neg g, if_neg (by omega)]
theorem moved_ar {l : List UInt8} (h : clL l = true) {k : Nat} (hk : k < l.length) : arL (movedL l k) = arL l := by
  rw [← area_eq (moved_cl h hk), ← area_eq h, moved_len]
  unfold areaTo
  have per : ∀ j, (fun j => RX l j * (RY l (j + 1) - RY l j)) (j + l.length) = (fun j => RX l j * (RY l (j + 1) - RY l j)) j := by
    intro j
    have p0 := (loop_of h).per j
    have p1 := (loop_of h).per (j + 1)
    rw [show j + 1 + l.length = j + l.length + 1 from by omega] at p1
    simp only [p0.1, p0.2, p1.2]
  rw [← sumTo_shift (f := fun j => RX l j * (RY l (j + 1) - RY l j)) per k]
  rw [sumTo_congr (g := fun j => RX l (k + j) * (RY l (k + j + 1) - RY l (k + j)) - RX l k * (RY l (k + j + 1) - RY l (k + j))) (fun j hj => by
    have m0 := moved_R h hk j
    have m1 := moved_R h hk (j + 1)
    rw [m0.1, m0.2, m1.2, show k + (j + 1) = k + j + 1 from rfl]
    rw [show RY l (k + j + 1) - RY l k - (RY l (k + j) - RY l k) = RY l (k + j + 1) - RY l (k + j) from by omega, Int.sub_mul])]
  rw [sumTo_sub, sumTo_mul]
  have t := sumTo_tele (fun j => RY l (k + j)) l.length
  have q := (loop_of h).per k
  have e : sumTo (fun j => RY l (k + j + 1) - RY l (k + j)) l.length = 0 := by
    have t' : sumTo (fun j => RY l (k + j + 1) - RY l (k + j)) l.length = RY l (k + l.length) - RY l (k + 0) := t
    rw [t', q.2]; simp
  rw [e]; simp
/-- What the turn at a step is, round and round. -/
def tnAt (l : List UInt8) (k : Nat) : Int := turnOf (lkB (at0 l (k % l.length))) (lkB (at0 l ((k + 1) % l.length)))
theorem tnAt_per (l : List UInt8) (k : Nat) : tnAt l (k + l.length) = tnAt l k := by
  unfold tnAt
  rw [Nat.add_mod_right, show k + l.length + 1 = k + 1 + l.length from by omega, Nat.add_mod_right]
theorem tnL_at (l : List UInt8) : tnL l = sumTo (tnAt l) l.length := sumTo_congr (fun k hk => by unfold tnAt; rw [Nat.mod_eq_of_lt hk])
theorem moved_tn {l : List UInt8} {k : Nat} (hk : k < l.length) : tnL (movedL l k) = tnL l := by
  rw [tnL_at l, ← sumTo_shift (tnAt_per l) k]
  unfold tnL
  rw [moved_len]
  refine sumTo_congr (fun j hj => ?_)
  unfold tnAt
  rw [moved_at hk hj, moved_at hk (Nat.mod_lt _ (by omega)), Nat.add_mod_mod]
  rfl

/-! ### walked back -/
def otherB (b : UInt8) : UInt8 := if b = 101 then 119 else if b = 110 then 115 else if b = 119 then 101 else if b = 115 then 110 else b
def backL (l : List UInt8) : List UInt8 := (l.map otherB).reverse
theorem other_step {b : UInt8} (h : isStep b = true) : isStep (otherB b) = true ∧ otherB (otherB b) = b ∧ dxB (otherB b) = - dxB b ∧ dyB (otherB b) = - dyB b ∧ lkB (otherB b) = (lkB b + 2) % 4 := by
  rcases isStep_cases h with rfl | rfl | rfl | rfl <;> decide
theorem back_len (l : List UInt8) : (backL l).length = l.length := by unfold backL; simp
theorem back_wk {l : List UInt8} (h : wkL l = true) : wkL (backL l) = true := by
  unfold wkL at h ⊢
  simp only [Bool.and_eq_true, decide_eq_true_eq, List.all_eq_true] at h ⊢
  refine ⟨by rw [back_len]; exact h.1, fun x hx => ?_⟩
  unfold backL at hx
  simp only [List.mem_reverse, List.mem_map] at hx
  obtain ⟨y, hy, rfl⟩ := hx
  exact (other_step (h.2 y hy)).1
theorem back_back {l : List UInt8} (h : wkL l = true) : backL (backL l) = l := by
  unfold backL
  rw [List.map_reverse, List.reverse_reverse, List.map_map]
  unfold wkL at h
  simp only [Bool.and_eq_true, decide_eq_true_eq, List.all_eq_true] at h
  have : l.map (otherB ∘ otherB) = l.map id := List.map_congr_left (fun x hx => (other_step (h.2 x hx)).2.1)
  rw [this, List.map_id]
theorem back_at {l : List UInt8} {j : Nat} (hj : j < l.length) : at0 (backL l) j = otherB (at0 l (l.length - 1 - j)) := by
  unfold at0 backL
  rw [List.getD_eq_getElem?_getD, List.getD_eq_getElem?_getD, List.getElem?_reverse (by simpa using hj), List.length_map, List.getElem?_map, List.getElem?_eq_getElem (show l.length - 1 - j < l.length by omega)]
  rfl
theorem back_P {l : List UInt8} (h : wkL l = true) : ∀ j : Nat, j ≤ l.length → PX (backL l) j = PX l (l.length - j) - PX l l.length ∧ PY (backL l) j = PY l (l.length - j) - PY l l.length
  | 0, _ => by rw [PX_zero, PY_zero, Nat.sub_zero]; omega
  | j + 1, hj => by
    have ih := back_P h j (by omega)
    have s := (other_step (wkL_step h (k := l.length - 1 - j) (by omega))).2.2
    rw [PX_succ, PY_succ, back_at (by omega)]
    have e1 := PX_succ l (l.length - 1 - j)
    have e2 := PY_succ l (l.length - 1 - j)
    rw [show l.length - 1 - j + 1 = l.length - j from by omega] at e1 e2
    rw [show l.length - (j + 1) = l.length - 1 - j from by omega]
    omega
theorem back_end {l : List UInt8} (h : wkL l = true) : PX (backL l) l.length = - PX l l.length ∧ PY (backL l) l.length = - PY l l.length := by
  have p := back_P h l.length (Nat.le_refl _)
  rw [Nat.sub_self, PX_zero, PY_zero] at p
  omega
theorem back_cl {l : List UInt8} (h : clL l = true) : clL (backL l) = true := by
  have p := back_end (clL_wk h)
  have e := clL_end h
  exact clL_mk (back_wk (clL_wk h)) (by rw [back_len]; exact clL_pos h) (by rw [back_len]; omega) (by rw [back_len]; omega)
theorem sumTo_rev (f : Nat → Int) : ∀ n : Nat, sumTo (fun j => f (n - 1 - j)) n = sumTo f n
  | 0 => rfl
  | n + 1 => by
    rw [sumTo_first, sumTo_succ, ← sumTo_rev f n]
    rw [sumTo_congr (g := fun j => f (n - 1 - j)) (fun j hj => by rw [show n + 1 - 1 - (j + 1) = n - 1 - j from by omega])]
    rw [show n + 1 - 1 - 0 = n from by omega]; omega
theorem back_ar {l : List UInt8} (h : clL l = true) : arL (backL l) = - arL l := by
  unfold arL
  rw [back_len, ← sumTo_neg, ← sumTo_rev (fun k => -(PX l k * dyB (at0 l k)))]
  refine sumTo_congr (fun j hj => ?_)
  have p := back_P (clL_wk h) j (by omega)
  have e := clL_end h
  have st := wkL_step (clL_wk h) (k := l.length - 1 - j) (by omega)
  have s := (other_step st).2.2
  have m := isStep_move st
  have e1 := PX_succ l (l.length - 1 - j)
  rw [show l.length - 1 - j + 1 = l.length - j from by omega] at e1
  rw [back_at hj, p.1, e.1, s.2.1, e1]
  by_cases g : dyB (at0 l (l.length - 1 - j)) = 0
  · rw [g]; simp
  · rw [show dxB (at0 l (l.length - 1 - j)) = 0 from by omega]
    rw [Int.sub_zero, Int.add_zero, Int.mul_neg]
theorem turn_back {p q : Int} (hp : 0 ≤ p ∧ p ≤ 3) (hq : 0 ≤ q ∧ q ≤ 3) : turnOf ((q + 2) % 4) ((p + 2) % 4) = - turnOf p q := by
  have a : p = 0 ∨ p = 1 ∨ p = 2 ∨ p = 3 := by omega
  have b : q = 0 ∨ q = 1 ∨ q = 2 ∨ q = 3 := by omega
  rcases a with rfl | rfl | rfl | rfl <;> rcases b with rfl | rfl | rfl | rfl <;> decide
theorem step_look {b : UInt8} (h : isStep b = true) : 0 ≤ lkB b ∧ lkB b ≤ 3 := by rcases isStep_cases h with rfl | rfl | rfl | rfl <;> decide
theorem back_tn {l : List UInt8} (h : clL l = true) : tnL (backL l) = - tnL l := by
  have hn := clL_pos h
  rw [tnL_at l, ← sumTo_neg, ← sumTo_shift (f := fun k => - tnAt l k) (n := l.length) (fun k => by rw [tnAt_per]) (l.length - 1)]
  rw [← sumTo_rev]
  unfold tnL
  rw [back_len]
  refine sumTo_congr (fun j hj => ?_)
  have w := clL_wk h
  rw [back_at hj, back_at (Nat.mod_lt _ (by omega))]
  have s1 := wkL_step w (k := l.length - 1 - j) (by omega)
  have s2 := wkL_step w (k := l.length - 1 - (j + 1) % l.length) (by omega)
  rw [(other_step s1).2.2.2.2, (other_step s2).2.2.2.2, turn_back (step_look s2) (step_look s1)]
  congr 1
  unfold tnAt
  rcases mod_succ hn j with ⟨g1, g⟩ | ⟨g1, g⟩ <;> rw [Nat.mod_eq_of_lt hj] at g1 <;> rw [g]
  · rw [Nat.mod_eq_of_lt hj]
    rw [show l.length - 1 + (l.length - 1 - j) = l.length - 1 - (j + 1) + l.length from by omega, Nat.add_mod_right, Nat.mod_eq_of_lt (show l.length - 1 - (j + 1) < l.length by omega)]
    rw [show l.length - 1 - (j + 1) + l.length + 1 = l.length - 1 - j + l.length from by omega, Nat.add_mod_right, Nat.mod_eq_of_lt (show l.length - 1 - j < l.length by omega)]
  · rw [show l.length - 1 + (l.length - 1 - j) = l.length - 1 from by omega, Nat.mod_eq_of_lt (show l.length - 1 < l.length by omega), show l.length - 1 + 1 = l.length from by omega, Nat.mod_self]
    rw [show l.length - 1 - 0 = l.length - 1 from by omega, show l.length - 1 - j = 0 from by omega]

/-! ### one behind the other -/
theorem app_at_left (a b : List UInt8) {k : Nat} (h : k < a.length) : at0 (a ++ b) k = at0 a k := by
  unfold at0; rw [List.getD_eq_getElem?_getD, List.getD_eq_getElem?_getD, List.getElem?_append_left h]
theorem app_at_right (a b : List UInt8) (k : Nat) : at0 (a ++ b) (a.length + k) = at0 b k := by
  unfold at0; rw [List.getD_eq_getElem?_getD, List.getD_eq_getElem?_getD, List.getElem?_append_right (by omega), Nat.add_sub_cancel_left]
theorem app_P_left (a b : List UInt8) {k : Nat} (h : k ≤ a.length) : PX (a ++ b) k = PX a k ∧ PY (a ++ b) k = PY a k :=
  ⟨sumTo_congr fun j hj => by rw [app_at_left a b (by omega)], sumTo_congr fun j hj => by rw [app_at_left a b (by omega)]⟩
theorem app_P_right {a : List UInt8} (h : clL a = true) (b : List UInt8) (k : Nat) : PX (a ++ b) (a.length + k) = PX b k ∧ PY (a ++ b) (a.length + k) = PY b k := by
  have e := clL_end h
  have l := app_P_left a b (k := a.length) (Nat.le_refl _)
  have s1 : PX (a ++ b) (a.length + k) = PX (a ++ b) a.length + PX b k := by
    unfold PX
    rw [sumTo_split]
    congr 1
    exact sumTo_congr fun j hj => by rw [app_at_right]
  have s2 : PY (a ++ b) (a.length + k) = PY (a ++ b) a.length + PY b k := by
    unfold PY
    rw [sumTo_split]
    congr 1
    exact sumTo_congr fun j hj => by rw [app_at_right]
  omega
theorem app_cl {a b : List UInt8} (ha : clL a = true) (hb : clL b = true) (hl : a.length + b.length ≤ 40) : clL (a ++ b) = true := by
  have e := clL_end hb
  have p := app_P_right ha b b.length
  refine clL_mk ?_ (by have := clL_pos ha; simp; omega) (by rw [List.length_append]; omega) (by rw [List.length_append]; omega)
  have w1 := clL_wk ha
  have w2 := clL_wk hb
  unfold wkL at *
  simp only [Bool.and_eq_true, decide_eq_true_eq, List.all_eq_true] at w1 w2 ⊢
  refine ⟨by simpa using hl, fun x hx => ?_⟩
  rcases List.mem_append.1 hx with hx | hx
  · exact w1.2 x hx
  · exact w2.2 x hx
theorem app_wd {a : List UInt8} (ha : clL a = true) (b : List UInt8) (x y : Int) : wdL (a ++ b) x y = wdL a x y + wdL b x y := by
  unfold wdL
  rw [List.length_append, sumTo_split]
  congr 1
  · exact sumTo_congr fun k hk => by rw [(app_P_left a b (k := k) (by omega)).1, (app_P_left a b (k := k) (by omega)).2, (app_P_left a b (k := k + 1) (by omega)).2, app_at_left a b hk]
  · exact sumTo_congr fun k hk => by rw [(app_P_right ha b k).1, (app_P_right ha b k).2, show a.length + k + 1 = a.length + (k + 1) from rfl, (app_P_right ha b (k + 1)).2, app_at_right]
theorem app_ar {a : List UInt8} (ha : clL a = true) (b : List UInt8) : arL (a ++ b) = arL a + arL b := by
  unfold arL
  rw [List.length_append, sumTo_split]
  congr 1
  · exact sumTo_congr fun k hk => by rw [(app_P_left a b (k := k) (by omega)).1, app_at_left a b hk]
  · exact sumTo_congr fun k hk => by rw [(app_P_right ha b k).1, app_at_right]

/-! ### the square to the east -/
def btT (l : List UInt8) (x y : Int) (k : Nat) : Int :=
  if at0 l k = 110 ∧ PX l k = x + 1 ∧ PY l k = y then 1 else if at0 l k = 115 ∧ PX l k = x + 1 ∧ PY l k = y + 1 then -1 else 0
def btL (l : List UInt8) (x y : Int) : Int := sumTo (btT l x y) l.length
theorem wd_east {l : List UInt8} (h : wkL l = true) (x y : Int) : wdL l x y - btL l x y = wdL l (x + 1) y := by
  unfold wdL btL
  rw [← sumTo_sub]
  refine sumTo_congr (fun k hk => ?_)
  unfold btT
  have e := PY_succ l k
  rcases isStep_cases (wkL_step h hk) with g | g | g | g
  · rw [g, step_e.2.1]; simp
  · rw [g, step_n.2.1] at e ⊢
    simp only [true_and, show ¬ ((110 : UInt8) = 115) from by decide, false_and, if_false]
    (repeat' split) <;> omega
  · rw [g, step_w.2.1]; simp
  · rw [g, step_s.2.1] at e ⊢
    simp only [true_and, show ¬ ((115 : UInt8) = 110) from by decide, false_and, if_false]
    (repeat' split) <;> omega
end Go.Proofs.TW
