/- A simple closed walk turns round once: by all its chords. Plain Lean. -/
import Derived.Test.YtkfmppjljdhogaaDoorM3
namespace Go.Proofs.TW

/-- The direction of a step: 0 east, 1 north, 2 west, 3 south. -/
def lookOf (u v : Int) : Int := if u = 1 then 0 else if v = 1 then 1 else if u = -1 then 2 else 3
/-- A turn from one direction to another one. -/
def turnOf (a b : Int) : Int := if (b - a + 4) % 4 = 1 then 1 else if (b - a + 4) % 4 = 3 then -1 else 0
theorem look_e (u v : Int) (h : u = 1) : lookOf u v = 0 := by unfold lookOf; rw [if_pos h]
theorem look_n (u v : Int) (h : u = 0 ∧ v = 1) : lookOf u v = 1 := by unfold lookOf; rw [if_neg (by omega), if_pos h.2]
theorem look_w (u v : Int) (h : u = -1 ∧ v = 0) : lookOf u v = 2 := by unfold lookOf; rw [if_neg (by omega), if_neg (by omega), if_pos h.1]
theorem look_s (u v : Int) (h : u = 0 ∧ v = -1) : lookOf u v = 3 := by unfold lookOf; rw [if_neg (by omega), if_neg (by omega), if_neg (by omega)]
/-- The turn behind step k. -/
def turnAt (x y : Nat → Int) (k : Nat) : Int := turnOf (lookOf (x (k + 1) - x k) (y (k + 1) - y k)) (lookOf (x (k + 2) - x (k + 1)) (y (k + 2) - y (k + 1)))

/-- From the vector (p, q) to the vector (r, s): is the ray just below the one to the east crossed? -/
def cross (p q _r s : Int) : Int := if min q s = -1 ∧ 0 < p then s - q else 0

def kk (x y : Nat → Int) (i j : Nat) : Int := cross (x j - x i) (y j - y i) (x (j + 1) - x i) (y (j + 1) - y i)
def hh (x y : Nat → Int) (i j : Nat) : Int := cross (x j - x i) (y j - y i) (x j - x (i + 1)) (y j - y (i + 1))
/-- From one step's direction to the next one's. -/
def dd (x y : Nat → Int) (i : Nat) : Int := kk x y i (i + 1) + hh x y i (i + 2)

theorem Loop.dd_turn {n : Nat} {x y : Nat → Int} (h : Loop n x y) (i : Nat) (nb : ¬ (x (i + 2) = x i ∧ y (i + 2) = y i)) :
    turnAt x y i = lookOf (x (i + 2) - x (i + 1)) (y (i + 2) - y (i + 1)) - lookOf (x (i + 1) - x i) (y (i + 1) - y i) + 4 * dd x y i := by
  have s1 := h.step i
  have s2 := h.step (i + 1)
  rw [show i + 1 + 1 = i + 2 from rfl] at s2
  unfold turnAt dd kk hh
  rw [show i + 1 + 1 = i + 2 from rfl]
  generalize x (i + 2) = x2 at *
  generalize y (i + 2) = y2 at *
  generalize x (i + 1) = x1 at *
  generalize y (i + 1) = y1 at *
  generalize x i = x0 at *
  generalize y i = y0 at *
  rcases s1 with ⟨e1, e2⟩ | ⟨e1, e2⟩ | ⟨e1, e2⟩ | ⟨e1, e2⟩ <;> rcases s2 with ⟨f1, f2⟩ | ⟨f1, f2⟩ | ⟨f1, f2⟩ | ⟨f1, f2⟩ <;> subst e1 <;> subst e2 <;> subst f1 <;> subst f2 <;>
    first
      | (exfalso; omega)
      | (rw [look_e _ _ (by omega)]; (first | rw [look_e _ _ (by omega)] | rw [look_n _ _ (by omega)] | rw [look_w _ _ (by omega)] | rw [look_s _ _ (by omega)] | skip); unfold turnOf cross; (repeat' split) <;> omega)
      | (rw [look_n _ _ (by omega)]; (first | rw [look_e _ _ (by omega)] | rw [look_n _ _ (by omega)] | rw [look_w _ _ (by omega)] | rw [look_s _ _ (by omega)] | skip); unfold turnOf cross; (repeat' split) <;> omega)
      | (rw [look_w _ _ (by omega)]; (first | rw [look_e _ _ (by omega)] | rw [look_n _ _ (by omega)] | rw [look_w _ _ (by omega)] | rw [look_s _ _ (by omega)] | skip); unfold turnOf cross; (repeat' split) <;> omega)
      | (rw [look_s _ _ (by omega)]; (first | rw [look_e _ _ (by omega)] | rw [look_n _ _ (by omega)] | rw [look_w _ _ (by omega)] | rw [look_s _ _ (by omega)] | skip); unfold turnOf cross; (repeat' split) <;> omega)

/-- Round a small cell of chords nothing is crossed. -/
theorem cross_cell (p q u v r s : Int)
    (hu : (u = 1 ∧ v = 0) ∨ (u = 0 ∧ v = 1) ∨ (u = -1 ∧ v = 0) ∨ (u = 0 ∧ v = -1)) (hr : (r = 1 ∧ s = 0) ∨ (r = 0 ∧ s = 1) ∨ (r = -1 ∧ s = 0) ∨ (r = 0 ∧ s = -1))
    (n0 : ¬ (p = 0 ∧ q = 0)) (n1 : ¬ (p + u = 0 ∧ q + v = 0)) (n2 : ¬ (p - r = 0 ∧ q - s = 0)) (n3 : ¬ (p + u - r = 0 ∧ q + v - s = 0)) :
    cross p q (p + u) (q + v) + cross (p + u) (q + v) (p + u - r) (q + v - s) = cross p q (p - r) (q - s) + cross (p - r) (q - s) (p + u - r) (q + v - s) := by
  unfold cross
  rcases hu with ⟨rfl, rfl⟩ | ⟨rfl, rfl⟩ | ⟨rfl, rfl⟩ | ⟨rfl, rfl⟩ <;> rcases hr with ⟨rfl, rfl⟩ | ⟨rfl, rfl⟩ | ⟨rfl, rfl⟩ | ⟨rfl, rfl⟩ <;> (repeat' split) <;> omega

theorem Simple.chord {n : Nat} {x y : Nat → Int} (h : Simple n x y) {i j : Nat} (hij : i < j) (hj : j < i + n) : ¬ (x j - x i = 0 ∧ y j - y i = 0) := fun ⟨e1, e2⟩ => by
  have := h.inj_from i (j - i) 0 (by omega) h.pos (by rw [show i + (j - i) = j from by omega]; simp; omega) (by rw [show i + (j - i) = j from by omega]; simp; omega)
  omega

theorem Simple.cell {n : Nat} {x y : Nat → Int} (h : Simple n x y) {i j : Nat} (hij : i + 1 < j) (hj : j + 1 < i + n) : kk x y i j + hh x y i (j + 1) = hh x y i j + kk x y (i + 1) j := by
  have c0 := h.chord (i := i) (j := j) (by omega) (by omega)
  have c1 := h.chord (i := i) (j := j + 1) (by omega) (by omega)
  have c2 := h.chord (i := i + 1) (j := j) (by omega) (by omega)
  have c3 := h.chord (i := i + 1) (j := j + 1) (by omega) (by omega)
  have si := h.step i
  have sj := h.step j
  have e := cross_cell (x j - x i) (y j - y i) (x (j + 1) - x j) (y (j + 1) - y j) (x (i + 1) - x i) (y (i + 1) - y i) (by omega) (by omega) c0 (by omega) (by omega) (by omega)
  unfold kk hh
  rw [show x j - x i + (x (j + 1) - x j) = x (j + 1) - x i from by omega, show y j - y i + (y (j + 1) - y j) = y (j + 1) - y i from by omega,
    show x j - x i - (x (i + 1) - x i) = x j - x (i + 1) from by omega, show y j - y i - (y (i + 1) - y i) = y j - y (i + 1) from by omega,
    show x (j + 1) - x i - (x (i + 1) - x i) = x (j + 1) - x (i + 1) from by omega, show y (j + 1) - y i - (y (i + 1) - y i) = y (j + 1) - y (i + 1) from by omega] at e
  exact e

/-- The chords from one place, t of them. -/
def rowTo (x y : Nat → Int) (i : Nat) (t : Nat) : Int := sumTo (fun s => kk x y i (i + 1 + s)) t

theorem Simple.row {n : Nat} {x y : Nat → Int} (h : Simple n x y) (i : Nat) : ∀ t : Nat, i + 2 + t < i + n → rowTo x y i (t + 1) + hh x y i (i + 2 + t) = dd x y i + rowTo x y (i + 1) t
  | 0, _ => by simp [rowTo, sumTo, dd]
  | t + 1, ht => by
    have ih := h.row i t (by omega)
    have c := h.cell (i := i) (j := i + 2 + t) (by omega) (by omega)
    unfold rowTo at ih ⊢
    have g1 : sumTo (fun s => kk x y i (i + 1 + s)) (t + 1 + 1) = sumTo (fun s => kk x y i (i + 1 + s)) (t + 1) + kk x y i (i + 2 + t) := by
      rw [sumTo_succ, show i + 1 + (t + 1) = i + 2 + t from by omega]
    have g2 : sumTo (fun s => kk x y (i + 1) (i + 1 + 1 + s)) (t + 1) = sumTo (fun s => kk x y (i + 1) (i + 1 + 1 + s)) t + kk x y (i + 1) (i + 2 + t) := by
      rw [sumTo_succ, show i + 1 + 1 + t = i + 2 + t from by omega]
    rw [show i + 2 + (t + 1) = i + 2 + t + 1 from by omega]
    omega

/-- The vectors that lie above, and those that lie below. -/
def Up (p q : Int) : Prop := 0 < q ∨ (q = 0 ∧ 0 < p)
theorem cross_up {p q r s : Int} (h1 : Up p q) (h2 : Up r s) : cross p q r s = 0 := by
  unfold cross Up at *; rw [if_neg]; omega
theorem cross_down {p q r s : Int} (hs : r = p ∨ s = q) (h1 : Up (-p) (-q)) (h2 : Up (-r) (-s)) : cross p q r s = 0 := by
  unfold cross Up at *; split <;> omega

theorem Simple.low_up {n : Nat} {x y : Nat → Int} (h : Simple n x y) (hl : Lowest x y 0) {j : Nat} (h0 : 0 < j) (hj : j < n) : Up (x j - x 0) (y j - y 0) := by
  have c := h.chord (i := 0) (j := j) h0 (by omega)
  have l := hl j
  unfold Up; omega

theorem Simple.column {n : Nat} {x y : Nat → Int} (h : Simple n x y) (hl : Lowest x y 0) : ∀ s : Nat, s + 2 ≤ n → rowTo x y (n - 1 - s) s = sumTo (fun r => dd x y (n - 1 - s + r)) s
  | 0, _ => rfl
  | s + 1, hs => by
    have ih := h.column hl s (by omega)
    have r := h.row (n - 1 - (s + 1)) s (by omega)
    rw [show n - 1 - (s + 1) + 2 + s = n from by omega, show n - 1 - (s + 1) + 1 = n - 1 - s from by omega, ih] at r
    have z : hh x y (n - 1 - (s + 1)) n = 0 := by
      have a := h.low_up hl (j := n - 1 - (s + 1)) (by omega) (by omega)
      have b := h.low_up hl (j := n - 1 - (s + 1) + 1) (by omega) (by omega)
      have p := h.per 0
      rw [Nat.zero_add] at p
      have st := h.step (n - 1 - (s + 1))
      unfold hh
      rw [p.1, p.2]
      refine cross_down (by omega) ?_ ?_
      · rw [Int.neg_sub, Int.neg_sub]; exact a
      · rw [Int.neg_sub, Int.neg_sub]; exact b
    rw [sumTo_first]
    have e : sumTo (fun k => dd x y (n - 1 - (s + 1) + (k + 1))) s = sumTo (fun r => dd x y (n - 1 - s + r)) s := sumTo_congr (fun k _ => by congr 1; omega)
    rw [e]
    simp only [Nat.add_zero]
    omega

/-- All turns of the direction together, but the last one. -/
theorem Simple.all_but_last {n : Nat} {x y : Nat → Int} (h : Simple n x y) (hn : 2 < n) (hl : Lowest x y 0) :
    sumTo (dd x y) (n - 1) = hh x y 0 (n - 1) + kk x y 1 (n - 1) := by
  have c := h.column hl (n - 2) (by omega)
  rw [show n - 1 - (n - 2) = 1 from by omega] at c
  have r := h.row 0 (n - 3) (by omega)
  have z : rowTo x y 0 (n - 3 + 1) = 0 := sumTo_zero fun s hs => by
    unfold kk
    exact cross_up (h.low_up hl (by omega) (by omega)) (h.low_up hl (by omega) (by omega))
  have e1 : rowTo x y 1 (n - 2) = rowTo x y 1 (n - 3) + kk x y 1 (n - 1) := by
    unfold rowTo
    rw [show n - 2 = n - 3 + 1 from by omega, sumTo_succ]
    rw [show 1 + 1 + (n - 3) = n - 1 from by omega]
  have e2 : sumTo (dd x y) (n - 1) = dd x y 0 + sumTo (fun r => dd x y (1 + r)) (n - 2) := by
    rw [show n - 1 = n - 2 + 1 from by omega, sumTo_first]
    congr 1
    exact sumTo_congr (fun k _ => by rw [Nat.add_comm])
  rw [z, show 0 + 2 + (n - 3) = n - 1 from by omega, Nat.zero_add] at r
  omega

theorem Simple.shift {n : Nat} {x y : Nat → Int} (h : Simple n x y) (m : Nat) : Simple n (fun k => x (m + k)) (fun k => y (m + k)) :=
  { pos := h.pos
    step := fun i => h.step (m + i)
    per := fun i => by have := h.per (m + i); rw [Nat.add_assoc] at this; exact this
    inj := fun i j hi hj e1 e2 => h.inj_from m i j hi hj e1 e2 }

theorem Loop.turnAt_per {n : Nat} {x y : Nat → Int} (h : Loop n x y) (k : Nat) : turnAt x y (k + n) = turnAt x y k := by
  have h0 := h.per k
  have h1 := h.per (k + 1)
  have h2 := h.per (k + 2)
  rw [show k + 1 + n = k + n + 1 from by omega] at h1
  rw [show k + 2 + n = k + n + 2 from by omega] at h2
  unfold turnAt
  rw [h0.1, h0.2, h1.1, h1.2, h2.1, h2.2]

/-- All turns together are four times the turns of the direction. -/
theorem Simple.turn_dd {n : Nat} {x y : Nat → Int} (h : Simple n x y) (hn : 2 < n) : sumTo (turnAt x y) n = 4 * sumTo (dd x y) n := by
  have e : sumTo (turnAt x y) n = sumTo (fun i => (lookOf (x (i + 1 + 1) - x (i + 1)) (y (i + 1 + 1) - y (i + 1)) - lookOf (x (i + 1) - x i) (y (i + 1) - y i)) + 4 * dd x y i) n :=
    sumTo_congr (fun k _ => h.dd_turn k (h.no_back hn k))
  rw [e, sumTo_add, sumTo_mul, sumTo_tele (fun i => lookOf (x (i + 1) - x i) (y (i + 1) - y i)) n]
  have p0 := h.per 0
  have p1 := h.per 1
  rw [Nat.zero_add] at p0
  rw [show 1 + n = n + 1 from by omega] at p1
  simp only [Nat.zero_add]
  rw [p0.1, p0.2, p1.1, p1.2]
  omega

/-- Begun at the lowest crossing. -/
theorem Simple.turn_low {n : Nat} {x y : Nat → Int} (h : Simple n x y) (hn : 2 < n) (hl : Lowest x y 0) {c : Int} (hc : (x 1 = x 0 + 1 ∧ y 1 = y 0 ∧ x (n - 1) = x 0 ∧ y (n - 1) = y 0 + 1 ∧ c = 1) ∨ (x 1 = x 0 ∧ y 1 = y 0 + 1 ∧ x (n - 1) = x 0 + 1 ∧ y (n - 1) = y 0 ∧ c = 0)) :
    sumTo (turnAt x y) n = 8 * c - 4 := by
  have a := h.all_but_last hn hl
  have t := h.turn_dd hn
  have s : sumTo (dd x y) n = sumTo (dd x y) (n - 1) + dd x y (n - 1) := by
    have := sumTo_succ (dd x y) (n - 1)
    rw [show n - 1 + 1 = n from by omega] at this
    exact this
  have p0 := h.per 0
  have p1 := h.per 1
  rw [Nat.zero_add] at p0
  rw [show 1 + n = n + 1 from by omega] at p1
  rw [t, s, a]
  unfold dd kk hh
  rw [show n - 1 + 1 = n from by omega, show n - 1 + 2 = n + 1 from by omega, p0.1, p0.2, p1.1, p1.2]
  simp only [Nat.zero_add]
  unfold cross
  rcases hc with ⟨e1, e2, e3, e4, e5⟩ | ⟨e1, e2, e3, e4, e5⟩ <;> rw [e1, e2, e3, e4, e5] <;> (repeat' split) <;> omega

/-- Simple closed walks turn round once, and the number c says which way. -/
theorem Simple.turning {n : Nat} {x y : Nat → Int} (h : Simple n x y) (hn : 2 < n) :
    ∃ c, (c = 0 ∨ c = 1) ∧ (∀ k, Side (wind n x y) (x k) (y k) (x (k + 1)) (y (k + 1)) c) ∧ (∀ a b, wind n x y a b = c ∨ wind n x y a b = c - 1) ∧ sumTo (turnAt x y) n = 8 * c - 4 := by
  obtain ⟨c, hs⟩ := h.sides hn
  obtain ⟨m, hm, hl⟩ := h.lowest
  have hl' : Lowest x y (m + n - 1 + 1) := by
    rw [show m + n - 1 + 1 = m + n from by omega]
    have p := h.per m
    intro k
    rw [p.1, p.2]; exact hl k
  have sl := h.side_lowest hn hs hl'
  rw [show m + n - 1 + 1 = m + n from by omega, show m + n - 1 + 2 = m + 1 + n from by omega, (h.per m).1, (h.per m).2, (h.per (m + 1)).1, (h.per (m + 1)).2] at sl
  have hc : c = 0 ∨ c = 1 := by omega
  refine ⟨c, hc, hs, fun a b => h.two_values hn hc hs b (x 0 + n - a).toNat a (by omega), ?_⟩
  rw [← sumTo_shift h.turnAt_per m]
  have := (h.shift m).turn_low hn (c := c) (fun k => by simpa using hl (m + k)) (by
    simp only [Nat.add_zero]
    rw [show m + (n - 1) = m + n - 1 from by omega]
    omega)
  exact this

end Go.Proofs.TW
