/- A simple closed walk goes round each square c or c - 1 times, with one c for all, 0 or 1: and c is told at its lowest crossing. Plain Lean. -/
import Derived.Test.YtkfmppjljdhogaaDoorM2
namespace Go.Proofs.TW

theorem Simple.side_next {n : Nat} {x y : Nat → Int} (h : Simple n x y) (hn : 2 < n) (m : Nat) (c : Int)
    (hs : Side (wind n x y) (x m) (y m) (x (m + 1)) (y (m + 1)) c) : Side (wind n x y) (x (m + 1)) (y (m + 1)) (x (m + 2)) (y (m + 2)) c := by
  obtain ⟨v1, v2, v3, v4⟩ := h.vertex hn m
  have nb := h.no_back hn m
  have s1 := h.step m
  have s2 := h.step (m + 1)
  unfold edgeV at v1 v2
  unfold edgeH at v3 v4
  rw [show m + 1 + 1 = m + 2 from rfl] at v1 v2 v3 v4 s2
  generalize x (m + 2) = x2 at *
  generalize y (m + 2) = y2 at *
  generalize wind n x y = w at *
  generalize x (m + 1) = x1 at *
  generalize y (m + 1) = y1 at *
  generalize x m = x0 at *
  generalize y m = y0 at *
  unfold Side at hs ⊢
  obtain ⟨a1, a2, a3, a4⟩ := hs
  rcases s1 with ⟨e1, e2⟩ | ⟨e1, e2⟩ | ⟨e1, e2⟩ | ⟨e1, e2⟩
  · obtain rfl : x0 = x1 - 1 := by omega
    obtain rfl : y0 = y1 := by omega
    have a := a1 (by omega)
    clear a1 a2 a3 a4
    rcases s2 with ⟨f1, f2⟩ | ⟨f1, f2⟩ | ⟨f1, f2⟩ | ⟨f1, f2⟩ <;> subst f1 <;> subst f2 <;>
    (repeat' split at v1) <;> (try (exfalso; omega)) <;> (repeat' split at v2) <;> (try (exfalso; omega)) <;> (repeat' split at v3) <;> (try (exfalso; omega)) <;> (repeat' split at v4) <;> (try (exfalso; omega)) <;>
    (refine ⟨fun g => ?_, fun g => ?_, fun g => ?_, fun g => ?_⟩ <;> first | (exfalso; omega) | (constructor <;> omega))
  · obtain rfl : x0 = x1 := by omega
    obtain rfl : y0 = y1 - 1 := by omega
    have a := a2 (by omega)
    clear a1 a2 a3 a4
    rcases s2 with ⟨f1, f2⟩ | ⟨f1, f2⟩ | ⟨f1, f2⟩ | ⟨f1, f2⟩ <;> subst f1 <;> subst f2 <;>
    (repeat' split at v1) <;> (try (exfalso; omega)) <;> (repeat' split at v2) <;> (try (exfalso; omega)) <;> (repeat' split at v3) <;> (try (exfalso; omega)) <;> (repeat' split at v4) <;> (try (exfalso; omega)) <;>
    (refine ⟨fun g => ?_, fun g => ?_, fun g => ?_, fun g => ?_⟩ <;> first | (exfalso; omega) | (constructor <;> omega))
  · obtain rfl : x0 = x1 + 1 := by omega
    obtain rfl : y0 = y1 := by omega
    have a := a3 (by omega)
    clear a1 a2 a3 a4
    rcases s2 with ⟨f1, f2⟩ | ⟨f1, f2⟩ | ⟨f1, f2⟩ | ⟨f1, f2⟩ <;> subst f1 <;> subst f2 <;>
    (repeat' split at v1) <;> (try (exfalso; omega)) <;> (repeat' split at v2) <;> (try (exfalso; omega)) <;> (repeat' split at v3) <;> (try (exfalso; omega)) <;> (repeat' split at v4) <;> (try (exfalso; omega)) <;>
    (refine ⟨fun g => ?_, fun g => ?_, fun g => ?_, fun g => ?_⟩ <;> first | (exfalso; omega) | (constructor <;> omega))
  · obtain rfl : x0 = x1 := by omega
    obtain rfl : y0 = y1 + 1 := by omega
    have a := a4 (by omega)
    clear a1 a2 a3 a4
    rcases s2 with ⟨f1, f2⟩ | ⟨f1, f2⟩ | ⟨f1, f2⟩ | ⟨f1, f2⟩ <;> subst f1 <;> subst f2 <;>
    (repeat' split at v1) <;> (try (exfalso; omega)) <;> (repeat' split at v2) <;> (try (exfalso; omega)) <;> (repeat' split at v3) <;> (try (exfalso; omega)) <;> (repeat' split at v4) <;> (try (exfalso; omega)) <;>
    (refine ⟨fun g => ?_, fun g => ?_, fun g => ?_, fun g => ?_⟩ <;> first | (exfalso; omega) | (constructor <;> omega))

theorem Simple.side_first {n : Nat} {x y : Nat → Int} (h : Simple n x y) (hn : 2 < n) (m : Nat) :
    ∃ c, Side (wind n x y) (x (m + 1)) (y (m + 1)) (x (m + 2)) (y (m + 2)) c := by
  obtain ⟨v1, v2, v3, v4⟩ := h.vertex hn m
  have nb := h.no_back hn m
  have s1 := h.step m
  have s2 := h.step (m + 1)
  unfold edgeV at v1 v2
  unfold edgeH at v3 v4
  rw [show m + 1 + 1 = m + 2 from rfl] at v1 v2 v3 v4 s2
  generalize x (m + 2) = x2 at *
  generalize y (m + 2) = y2 at *
  generalize wind n x y = w at *
  generalize x (m + 1) = x1 at *
  generalize y (m + 1) = y1 at *
  generalize x m = x0 at *
  generalize y m = y0 at *
  unfold Side
  rcases s2 with ⟨f1, f2⟩ | ⟨f1, f2⟩ | ⟨f1, f2⟩ | ⟨f1, f2⟩ <;> subst f1 <;> subst f2
  · refine ⟨w x1 y2, ?_⟩
    clear v1 v2 v4
    (repeat' split at v3) <;> (try (exfalso; omega)) <;>
    (refine ⟨fun g => ?_, fun g => ?_, fun g => ?_, fun g => ?_⟩ <;> first | (exfalso; omega) | (constructor <;> omega))
  · refine ⟨w (x2 - 1) y1, ?_⟩
    clear v2 v3 v4
    (repeat' split at v1) <;> (try (exfalso; omega)) <;>
    (refine ⟨fun g => ?_, fun g => ?_, fun g => ?_, fun g => ?_⟩ <;> first | (exfalso; omega) | (constructor <;> omega))
  · refine ⟨w (x1 - 1) (y2 - 1), ?_⟩
    clear v1 v2 v3
    (repeat' split at v4) <;> (try (exfalso; omega)) <;>
    (refine ⟨fun g => ?_, fun g => ?_, fun g => ?_, fun g => ?_⟩ <;> first | (exfalso; omega) | (constructor <;> omega))
  · refine ⟨w x2 (y1 - 1), ?_⟩
    clear v1 v3 v4
    (repeat' split at v2) <;> (try (exfalso; omega)) <;>
    (refine ⟨fun g => ?_, fun g => ?_, fun g => ?_, fun g => ?_⟩ <;> first | (exfalso; omega) | (constructor <;> omega))

theorem Simple.sides {n : Nat} {x y : Nat → Int} (h : Simple n x y) (hn : 2 < n) :
    ∃ c, ∀ k, Side (wind n x y) (x k) (y k) (x (k + 1)) (y (k + 1)) c := by
  obtain ⟨c, hc⟩ := h.side_first hn 0
  have all : ∀ k, Side (wind n x y) (x (k + 1)) (y (k + 1)) (x (k + 2)) (y (k + 2)) c := by
    intro k
    induction k with
    | zero => exact hc
    | succ k ih => exact h.side_next hn (k + 1) c ih
  refine ⟨c, fun k => ?_⟩
  have a := all (k + n - 1)
  have p0 := h.per k
  have p1 := h.per (k + 1)
  rw [show k + 1 + n = k + n + 1 from by omega] at p1
  rw [show k + n - 1 + 1 = k + n from by omega, show k + n - 1 + 2 = k + n + 1 from by omega, p0.1, p0.2, p1.1, p1.2] at a
  exact a

/-- Nothing beyond the walk is gone round. -/
theorem wind_far_east {n : Nat} {x y : Nat → Int} (a b : Int) (hM : ∀ k, x k ≤ a) : wind n x y a b = 0 :=
  sumTo_zero fun k _ => by unfold rayE; rw [if_neg]; have := hM k; omega
theorem wind_far_south {n : Nat} {x y : Nat → Int} (a b : Int) (hM : ∀ k, b < y k) : wind n x y a b = 0 :=
  sumTo_zero fun k _ => by unfold rayE; rw [if_neg]; have := hM k; have := hM (k + 1); omega
theorem wind_far_north {n : Nat} {x y : Nat → Int} (a b : Int) (hM : ∀ k, y k ≤ b) : wind n x y a b = 0 :=
  sumTo_zero fun k _ => by
    unfold rayE
    split
    · have := hM k; have := hM (k + 1); omega
    · rfl
theorem wind_far_west {n : Nat} {x y : Nat → Int} (h : Loop n x y) (a b : Int) (hM : ∀ k, a < x k) : wind n x y a b = 0 := by
  rw [wind_west h]
  exact sumTo_zero fun k _ => by unfold rayW; rw [if_neg]; have := hM k; omega

/-- How far a walk may come. -/
theorem Loop.near {n : Nat} {x y : Nat → Int} (h : Loop n x y) (i : Nat) : ∀ k : Nat, x (i + k) - x i ≤ k ∧ x i - x (i + k) ≤ k ∧ y (i + k) - y i ≤ k ∧ y i - y (i + k) ≤ k
  | 0 => by simp
  | k + 1 => by
    have a := h.near i k
    have s := h.step (i + k)
    rw [show i + (k + 1) = i + k + 1 from rfl]
    omega

/-- A closed walk comes back: so it is never farther than half its steps. -/
theorem Loop.half {n : Nat} {x y : Nat → Int} (h : Loop n x y) (k : Nat) : 2 * (x k - x 0) ≤ n ∧ 2 * (x 0 - x k) ≤ n ∧ 2 * (y k - y 0) ≤ n ∧ 2 * (y 0 - y k) ≤ n := by
  have m := h.mod k
  have hl := Nat.mod_lt k h.pos
  rw [← m.1, ← m.2]
  generalize k % n = i at *
  have a := h.near 0 i
  have b := h.near i (n - i)
  have p := h.per 0
  rw [Nat.zero_add] at a p
  rw [show i + (n - i) = n from by omega] at b
  omega

theorem Simple.two_values {n : Nat} {x y : Nat → Int} (h : Simple n x y) (hn : 2 < n) {c : Int} (hc : c = 0 ∨ c = 1) (hs : ∀ k, Side (wind n x y) (x k) (y k) (x (k + 1)) (y (k + 1)) c)
    (b : Int) : ∀ (t : Nat) (a : Int), x 0 + n - a ≤ t → wind n x y a b = c ∨ wind n x y a b = c - 1
  | 0, a, ht => by
    have : wind n x y a b = 0 := wind_far_east a b (fun k => by have := h.half k; omega)
    omega
  | t + 1, a, ht => by
    have ih := h.two_values hn hc hs b t (a + 1) (by omega)
    have d := wind_east_diff n x y a b
    by_cases hz : ∀ k, k < n → edgeV x y (a + 1) b k = 0
    · rw [sumTo_zero hz] at d; omega
    · obtain ⟨k, hk⟩ := Classical.not_forall.1 hz
      have hk : ¬ edgeV x y (a + 1) b k = 0 := fun e => hk (fun _ => e)
      unfold edgeV at hk
      have s := h.step k
      obtain ⟨_, s2, _, s4⟩ := hs k
      split at hk
      · rename_i g
        obtain ⟨g1, g2⟩ := g
        rcases s with ⟨e1, e2⟩ | ⟨e1, e2⟩ | ⟨e1, e2⟩ | ⟨e1, e2⟩
        · omega
        · have := s2 (by omega)
          rw [g2, show y k = b from by omega, show a + 1 - 1 = a from by omega] at this
          omega
        · omega
        · have := s4 (by omega)
          rw [g2, show y (k + 1) = b from by omega, show a + 1 - 1 = a from by omega] at this
          omega
      · omega

/-- A lowest crossing of the walk, the westernmost one of them. -/
def Lowest (x y : Nat → Int) (m : Nat) : Prop := ∀ k, y m < y k ∨ (y m = y k ∧ x m ≤ x k)

theorem Loop.lowest {n : Nat} {x y : Nat → Int} (h : Loop n x y) : ∃ m, m < n ∧ Lowest x y m := by
  have first : ∀ t : Nat, 0 < t → ∃ m, m < t ∧ ∀ k, k < t → y m < y k ∨ (y m = y k ∧ x m ≤ x k) := by
    intro t
    induction t with
    | zero => intro h0; omega
    | succ t ih =>
      intro _
      by_cases h0 : t = 0
      · subst h0
        exact ⟨0, by omega, fun k hk => by obtain rfl : k = 0 := (by omega); exact Or.inr ⟨rfl, Int.le_refl _⟩⟩
      · obtain ⟨m, hm, hk⟩ := ih (by omega)
        by_cases g : y m < y t ∨ (y m = y t ∧ x m ≤ x t)
        · exact ⟨m, by omega, fun k hk' => by
            by_cases e : k = t
            · subst e; exact g
            · exact hk k (by omega)⟩
        · exact ⟨t, by omega, fun k hk' => by
            by_cases e : k = t
            · subst e; omega
            · have := hk k (by omega); omega⟩
  obtain ⟨m, hm, hk⟩ := first n h.pos
  refine ⟨m, hm, fun k => ?_⟩
  have := hk (k % n) (Nat.mod_lt _ h.pos)
  have mm := h.mod k
  rw [mm.1, mm.2] at this
  exact this

/-- The two ways at the lowest crossing: from the north, and on to the east; or from the east, and on to the north. -/
theorem Simple.at_lowest {n : Nat} {x y : Nat → Int} (h : Simple n x y) (hn : 2 < n) {m : Nat} (hl : Lowest x y (m + 1)) :
    ((x m = x (m + 1) ∧ y m = y (m + 1) + 1) ∧ (x (m + 2) = x (m + 1) + 1 ∧ y (m + 2) = y (m + 1))) ∨
    ((x m = x (m + 1) + 1 ∧ y m = y (m + 1)) ∧ (x (m + 2) = x (m + 1) ∧ y (m + 2) = y (m + 1) + 1)) := by
  have nb := h.no_back hn m
  have s1 := h.step m
  have s2 := h.step (m + 1)
  rw [show m + 1 + 1 = m + 2 from rfl] at s2
  have l1 := hl m
  have l2 := hl (m + 2)
  omega

/-- The number c is told at the lowest crossing. -/
theorem Simple.side_lowest {n : Nat} {x y : Nat → Int} (h : Simple n x y) (hn : 2 < n) {c : Int} (hs : ∀ k, Side (wind n x y) (x k) (y k) (x (k + 1)) (y (k + 1)) c) {m : Nat} (hl : Lowest x y (m + 1)) :
    ((x (m + 2) = x (m + 1) + 1 ∧ y (m + 2) = y (m + 1)) ∧ x m = x (m + 1) ∧ y m = y (m + 1) + 1 ∧ c = 1) ∨
    ((x (m + 2) = x (m + 1) ∧ y (m + 2) = y (m + 1) + 1) ∧ x m = x (m + 1) + 1 ∧ y m = y (m + 1) ∧ c = 0) := by
  have z : wind n x y (x (m + 1)) (y (m + 1) - 1) = 0 := wind_far_south _ _ (fun k => by have := hl k; omega)
  rcases h.at_lowest hn hl with ⟨⟨a1, a2⟩, b1, b2⟩ | ⟨⟨a1, a2⟩, b1, b2⟩
  · left
    obtain ⟨s1, _, _, _⟩ := hs (m + 1)
    have := s1 b1
    exact ⟨⟨b1, b2⟩, a1, a2, by omega⟩
  · right
    obtain ⟨_, _, s3, _⟩ := hs m
    have := s3 (by omega)
    rw [a2] at this
    exact ⟨⟨b1, b2⟩, a1, a2, by omega⟩

end Go.Proofs.TW
