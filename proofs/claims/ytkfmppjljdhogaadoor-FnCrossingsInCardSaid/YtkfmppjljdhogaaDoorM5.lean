/- Areas are windings; squares are crossings (Pick). Plain Lean. -/
import Derived.Test.YtkfmppjljdhogaaDoorM4
namespace Go.Proofs.TW

/-- The area: how far to the east the steps to the north are, less that of those to the south. -/
def areaTo (n : Nat) (x y : Nat → Int) : Int := sumTo (fun k => x k * (y (k + 1) - y k)) n

theorem boxTo_below (X d lo : Int) (h0 : lo ≤ X) : ∀ N : Nat, boxTo (fun a => if a < X then d else 0) lo N = (if X ≤ lo + N then X - lo else N) * d
  | 0 => by
    have : (if X ≤ lo + ((0 : Nat) : Int) then X - lo else ((0 : Nat) : Int)) = 0 := by split <;> omega
    rw [this]; simp [boxTo, sumTo]
  | N + 1 => by
    have ih := boxTo_below X d lo h0 N
    unfold boxTo at ih ⊢
    rw [sumTo_succ, ih]
    show _ + (if lo + (N : Int) < X then d else 0) = _
    by_cases g : lo + (N : Int) < X
    · rw [if_pos g, if_neg (by omega)]
      have : (if X ≤ lo + ((N + 1 : Nat) : Int) then X - lo else ((N + 1 : Nat) : Int)) = (N : Int) + 1 := by split <;> omega
      rw [this, Int.add_mul, Int.one_mul]
    · rw [if_neg g, if_pos (by omega), if_pos (by omega)]; omega

theorem box2_rayE {x y : Nat → Int} {k : Nat} {lo : Int} {N : Nat} (h1 : lo ≤ x k) (h2 : x k ≤ lo + N) (h3 : lo ≤ min (y k) (y (k + 1))) (h4 : min (y k) (y (k + 1)) < lo + N) :
    box2 (fun a b => rayE x y a b k) lo N = (x k - lo) * (y (k + 1) - y k) := by
  have e : ∀ a, boxTo (fun b => rayE x y a b k) lo N = if a < x k then y (k + 1) - y k else 0 := by
    intro a
    rw [boxTo_single (a := min (y k) (y (k + 1))) h3 h4 (fun b _ _ hne => by unfold rayE; rw [if_neg]; omega)]
    unfold rayE
    by_cases g : a < x k
    · rw [if_pos ⟨rfl, g⟩, if_pos g]
    · rw [if_neg (fun c => g c.2), if_neg g]
  unfold box2
  rw [boxTo_congr (fun a _ _ => e a), boxTo_below _ _ _ h1, if_pos h2]

/-- All squares together are the area. -/
theorem Loop.area {n : Nat} {x y : Nat → Int} (h : Loop n x y) {lo : Int} {N : Nat} (hx : ∀ k, lo ≤ x k ∧ x k ≤ lo + N) (hy : ∀ k, lo ≤ y k ∧ y k < lo + N) :
    box2 (wind n x y) lo N = areaTo n x y := by
  unfold wind
  rw [box2_sum (fun k a b => rayE x y a b k)]
  rw [sumTo_congr (g := fun k => x k * (y (k + 1) - y k) - lo * (y (k + 1) - y k)) (fun k _ => by
    have a := hy k; have b := hy (k + 1)
    rw [box2_rayE (hx k).1 (hx k).2 (by omega) (by omega), Int.sub_mul])]
  rw [sumTo_sub, sumTo_mul]
  have t := h.sum_tele (fun _ q => q)
  rw [t]
  unfold areaTo
  omega

set_option maxHeartbeats 1000000 in
/-- The four squares at a crossing of the walk. -/
theorem Simple.four_on {n : Nat} {x y : Nat → Int} (h : Simple n x y) (hn : 2 < n) {c : Int} (hs : ∀ k, Side (wind n x y) (x k) (y k) (x (k + 1)) (y (k + 1)) c) (m : Nat) :
    wind n x y (x (m + 1)) (y (m + 1)) + wind n x y (x (m + 1) - 1) (y (m + 1)) + (wind n x y (x (m + 1)) (y (m + 1) - 1) + wind n x y (x (m + 1) - 1) (y (m + 1) - 1)) = 4 * c - 2 - turnAt x y m := by
  obtain ⟨v1, v2, v3, v4⟩ := h.vertex hn m
  have nb := h.no_back hn m
  have s1 := h.step m
  have s2 := h.step (m + 1)
  have a := hs (m + 1)
  unfold edgeV at v1 v2
  unfold edgeH at v3 v4
  unfold turnAt
  rw [show m + 1 + 1 = m + 2 from rfl] at v1 v2 v3 v4 s2 a
  generalize x (m + 2) = x2 at *
  generalize y (m + 2) = y2 at *
  generalize wind n x y = w at *
  generalize x (m + 1) = x1 at *
  generalize y (m + 1) = y1 at *
  generalize x m = x0 at *
  generalize y m = y0 at *
  clear hs
  unfold Side at a
  obtain ⟨a1, a2, a3, a4⟩ := a
  rcases s2 with ⟨f1, f2⟩ | ⟨f1, f2⟩ | ⟨f1, f2⟩ | ⟨f1, f2⟩ <;> subst f1 <;> subst f2
  · have a := a1 (by omega)
    clear a1 a2 a3 a4
    rcases s1 with ⟨e1, e2⟩ | ⟨e1, e2⟩ | ⟨e1, e2⟩ | ⟨e1, e2⟩ <;>
    first
      | (exfalso; omega)
      | ((repeat' split at v1) <;> (try (exfalso; omega)) <;> (repeat' split at v2) <;> (try (exfalso; omega)) <;> (repeat' split at v3) <;> (try (exfalso; omega)) <;> (repeat' split at v4) <;> (try (exfalso; omega)) <;>
           (first | (rw [look_e _ _ (by omega)]) | (rw [look_n _ _ (by omega)]) | (rw [look_w _ _ (by omega)]) | (rw [look_s _ _ (by omega)])) <;> (try (first | rw [look_e _ _ (by omega)] | rw [look_n _ _ (by omega)] | rw [look_w _ _ (by omega)] | rw [look_s _ _ (by omega)])) <;> unfold turnOf <;> (repeat' split) <;> omega)
  · have a := a2 (by omega)
    clear a1 a2 a3 a4
    rcases s1 with ⟨e1, e2⟩ | ⟨e1, e2⟩ | ⟨e1, e2⟩ | ⟨e1, e2⟩ <;>
    first
      | (exfalso; omega)
      | ((repeat' split at v1) <;> (try (exfalso; omega)) <;> (repeat' split at v2) <;> (try (exfalso; omega)) <;> (repeat' split at v3) <;> (try (exfalso; omega)) <;> (repeat' split at v4) <;> (try (exfalso; omega)) <;>
           (first | (rw [look_e _ _ (by omega)]) | (rw [look_n _ _ (by omega)]) | (rw [look_w _ _ (by omega)]) | (rw [look_s _ _ (by omega)])) <;> (try (first | rw [look_e _ _ (by omega)] | rw [look_n _ _ (by omega)] | rw [look_w _ _ (by omega)] | rw [look_s _ _ (by omega)])) <;> unfold turnOf <;> (repeat' split) <;> omega)
  · have a := a3 (by omega)
    clear a1 a2 a3 a4
    rcases s1 with ⟨e1, e2⟩ | ⟨e1, e2⟩ | ⟨e1, e2⟩ | ⟨e1, e2⟩ <;>
    first
      | (exfalso; omega)
      | ((repeat' split at v1) <;> (try (exfalso; omega)) <;> (repeat' split at v2) <;> (try (exfalso; omega)) <;> (repeat' split at v3) <;> (try (exfalso; omega)) <;> (repeat' split at v4) <;> (try (exfalso; omega)) <;>
           (first | (rw [look_e _ _ (by omega)]) | (rw [look_n _ _ (by omega)]) | (rw [look_w _ _ (by omega)]) | (rw [look_s _ _ (by omega)])) <;> (try (first | rw [look_e _ _ (by omega)] | rw [look_n _ _ (by omega)] | rw [look_w _ _ (by omega)] | rw [look_s _ _ (by omega)])) <;> unfold turnOf <;> (repeat' split) <;> omega)
  · have a := a4 (by omega)
    clear a1 a2 a3 a4
    rcases s1 with ⟨e1, e2⟩ | ⟨e1, e2⟩ | ⟨e1, e2⟩ | ⟨e1, e2⟩ <;>
    first
      | (exfalso; omega)
      | ((repeat' split at v1) <;> (try (exfalso; omega)) <;> (repeat' split at v2) <;> (try (exfalso; omega)) <;> (repeat' split at v3) <;> (try (exfalso; omega)) <;> (repeat' split at v4) <;> (try (exfalso; omega)) <;>
           (first | (rw [look_e _ _ (by omega)]) | (rw [look_n _ _ (by omega)]) | (rw [look_w _ _ (by omega)]) | (rw [look_s _ _ (by omega)])) <;> (try (first | rw [look_e _ _ (by omega)] | rw [look_n _ _ (by omega)] | rw [look_w _ _ (by omega)] | rw [look_s _ _ (by omega)])) <;> unfold turnOf <;> (repeat' split) <;> omega)

/-- At a crossing off the walk all four are alike. -/
theorem Loop.four_off {n : Nat} {x y : Nat → Int} (h : Loop n x y) (p q : Int) (off : ∀ k, ¬ (x k = p ∧ y k = q)) :
    wind n x y (p - 1) q = wind n x y p q ∧ wind n x y p (q - 1) = wind n x y p q ∧ wind n x y (p - 1) (q - 1) = wind n x y p q := by
  obtain ⟨o1, o2, o3, o4⟩ := h.edge_off p q off
  have e1 := wind_east_diff n x y (p - 1) q
  have e2 := wind_east_diff n x y (p - 1) (q - 1)
  have e3 := wind_north_diff h p (q - 1)
  rw [Int.sub_add_cancel] at e1 e2 e3
  omega

theorem Simple.on_sum {n : Nat} {x y : Nat → Int} (h : Simple n x y) (on : Int → Int → Bool) (hon : ∀ a b, on a b = true ↔ ∃ k, x k = a ∧ y k = b) (g : Int → Int → Int)
    {lo : Int} {N : Nat} (hx : ∀ k, lo ≤ x k ∧ x k < lo + N) (hy : ∀ k, lo ≤ y k ∧ y k < lo + N) :
    box2 (fun a b => if on a b then g a b else 0) lo N = sumTo (fun k => g (x k) (y k)) n := by
  have e : ∀ a b, (if on a b then g a b else 0) = sumTo (fun k => if x k = a ∧ y k = b then g a b else 0) n := by
    intro a b
    by_cases o : on a b = true
    · rw [if_pos o]
      obtain ⟨k, k1, k2⟩ := (hon a b).1 o
      have mm := h.toLoop.mod k
      rw [sumTo_single (k := k % n) (Nat.mod_lt _ h.pos) (fun j hj hne => by
        rw [if_neg]
        intro ⟨j1, j2⟩
        exact hne (h.inj j (k % n) hj (Nat.mod_lt _ h.pos) (by rw [mm.1, j1, k1]) (by rw [mm.2, j2, k2])))]
      rw [if_pos ⟨by rw [mm.1, k1], by rw [mm.2, k2]⟩]
    · rw [if_neg o]
      exact (sumTo_zero fun k _ => by rw [if_neg]; exact fun hk => o ((hon a b).2 ⟨k, hk⟩)).symm
  rw [box2_congr (fun a b _ _ _ _ => e a b), box2_sum (fun k a b => if x k = a ∧ y k = b then g a b else 0)]
  refine sumTo_congr (fun k _ => ?_)
  rw [box2_single (p := x k) (q := y k) (hx k).1 (hx k).2 (hy k).1 (hy k).2 (fun a b hne => by rw [if_neg]; omega)]
  rw [if_pos ⟨rfl, rfl⟩]

/-- Squares are crossings. -/
theorem Simple.pick {n : Nat} {x y : Nat → Int} (h : Simple n x y) (hn : 2 < n) (on : Int → Int → Bool) (hon : ∀ a b, on a b = true ↔ ∃ k, x k = a ∧ y k = b)
    {lo : Int} {N : Nat} (hx : ∀ k, lo < x k ∧ x k < lo + N) (hy : ∀ k, lo < y k ∧ y k < lo + N) :
    2 * box2 (fun a b => if wind n x y a b = 0 then 0 else 1) lo N = 2 * box2 (fun a b => if on a b = false ∧ wind n x y a b ≠ 0 then 1 else 0) lo N + n - 2 := by
  obtain ⟨c, hc, hs, htwo, ht⟩ := h.turning hn
  have rE : ∀ b, wind n x y (lo + N - 1) b = 0 := fun b => wind_far_east _ b (fun k => by have := hx k; omega)
  have rW : ∀ b, wind n x y (lo - 1) b = 0 := fun b => wind_far_west h.toLoop _ b (fun k => by have := hx k; omega)
  have rN : ∀ a, wind n x y a (lo + N - 1) = 0 := fun a => wind_far_north a _ (fun k => by have := hy k; omega)
  have rS : ∀ a, wind n x y a (lo - 1) = 0 := fun a => wind_far_south a _ (fun k => by have := hy k; omega)
  -- the four squares at each crossing, all together
  have q1 : box2 (fun a b => wind n x y (a - 1) b) lo N = box2 (wind n x y) lo N := box2_east (f := wind n x y) rW rE
  have q2 : box2 (fun a b => wind n x y a (b - 1)) lo N = box2 (wind n x y) lo N := box2_north (f := wind n x y) rS rN
  have q3 : box2 (fun a b => wind n x y (a - 1) (b - 1)) lo N = box2 (wind n x y) lo N := by
    have := box2_east (f := fun a b => wind n x y a (b - 1)) (lo := lo) (n := N) (fun b => rW (b - 1)) (fun b => rE (b - 1))
    rw [← q2, ← this]
  have all : box2 (fun a b => wind n x y a b + wind n x y (a - 1) b + (wind n x y a (b - 1) + wind n x y (a - 1) (b - 1))) lo N = 4 * box2 (wind n x y) lo N := by
    rw [box2_add, box2_add (fun a b => wind n x y a b), box2_add (fun a b => wind n x y a (b - 1)), q1, q2, q3]
    have : box2 (fun a b => wind n x y a b) lo N = box2 (wind n x y) lo N := rfl
    omega
  -- on the walk, and off it
  have part : box2 (fun a b => wind n x y a b + wind n x y (a - 1) b + (wind n x y a (b - 1) + wind n x y (a - 1) (b - 1))) lo N =
      box2 (fun a b => if on a b then wind n x y a b + wind n x y (a - 1) b + (wind n x y a (b - 1) + wind n x y (a - 1) (b - 1)) else 0) lo N + 4 * box2 (fun a b => if on a b then 0 else wind n x y a b) lo N := by
    rw [← box2_mul, ← box2_add]
    refine box2_congr (fun a b _ _ _ _ => ?_)
    by_cases o : on a b = true
    · rw [if_pos o, if_pos o]; omega
    · rw [if_neg o, if_neg o]
      have f := h.toLoop.four_off a b (fun k hk => o ((hon a b).2 ⟨k, hk⟩))
      rw [f.1, f.2.1, f.2.2]; omega
  rw [h.on_sum on hon (fun a b => wind n x y a b + wind n x y (a - 1) b + (wind n x y a (b - 1) + wind n x y (a - 1) (b - 1))) (fun k => ⟨by have := hx k; omega, (hx k).2⟩) (fun k => ⟨by have := hy k; omega, (hy k).2⟩)] at part
  have onsum : sumTo (fun k => wind n x y (x k) (y k) + wind n x y (x k - 1) (y k) + (wind n x y (x k) (y k - 1) + wind n x y (x k - 1) (y k - 1))) n = n * (4 * c - 2) - (8 * c - 4) := by
    have per : ∀ k, (fun k => wind n x y (x k) (y k) + wind n x y (x k - 1) (y k) + (wind n x y (x k) (y k - 1) + wind n x y (x k - 1) (y k - 1))) (k + n) = (fun k => wind n x y (x k) (y k) + wind n x y (x k - 1) (y k) + (wind n x y (x k) (y k - 1) + wind n x y (x k - 1) (y k - 1))) k := by
      intro k
      have p := h.per k
      simp only [p.1, p.2]
    rw [← sumTo_shift per 1, sumTo_congr (g := fun k => (4 * c - 2) - turnAt x y k) (fun k _ => by
      have f := h.four_on hn hs k
      rw [Nat.add_comm 1 k]; exact f)]
    rw [sumTo_sub, sumTo_const, ht, Int.mul_comm]
  have sq : box2 (fun a b => if wind n x y a b = 0 then 0 else 1) lo N = (2 * c - 1) * box2 (wind n x y) lo N := by
    rw [← box2_mul]
    refine box2_congr (fun a b _ _ _ _ => ?_)
    have := htwo a b
    rcases hc with rfl | rfl <;> split <;> omega
  have cr : box2 (fun a b => if on a b = false ∧ wind n x y a b ≠ 0 then 1 else 0) lo N = (2 * c - 1) * box2 (fun a b => if on a b then 0 else wind n x y a b) lo N := by
    rw [← box2_mul]
    refine box2_congr (fun a b _ _ _ _ => ?_)
    have := htwo a b
    by_cases o : on a b = true
    · rw [if_pos o, if_neg (by simp [o])]; omega
    · rw [if_neg o]
      have o' : on a b = false := by simpa using o
      rcases hc with rfl | rfl <;> split <;> simp [o'] at * <;> omega
  rw [sq, cr]
  rw [part, onsum] at all
  rcases hc with rfl | rfl <;> omega

end Go.Proofs.TW
