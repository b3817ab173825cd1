/- Of walks as lists of letters: what simple closed ones come to. Plain Lean. -/
import Derived.Test.YtkfmppjljdhogaaDoorP1
namespace Go.Proofs.TW

theorem sumTo_nonneg {f : Nat → Int} : ∀ {n : Nat}, (∀ k, k < n → 0 ≤ f k) → 0 ≤ sumTo f n
  | 0, _ => Int.le_refl _
  | n + 1, h => by
    have h1 := sumTo_nonneg (f := f) (n := n) (fun k hk => h k (by omega))
    have h2 := h n (by omega)
    rw [sumTo_succ]; omega
theorem sumTo_ge {f : Nat → Int} {k : Nat} : ∀ {n : Nat}, k < n → (∀ j, j < n → 0 ≤ f j) → f k ≤ sumTo f n
  | 0, hk, _ => by omega
  | n + 1, hk, h => by
    rw [sumTo_succ]
    have h0 := h n (by omega)
    by_cases e : k = n
    · subst e
      have := sumTo_nonneg (f := f) (n := k) (fun j hj => h j (by omega))
      omega
    · have := sumTo_ge (f := f) (k := k) (n := n) (by omega) (fun j hj => h j (by omega))
      omega
theorem boxTo_nonneg {f : Int → Int} (h : ∀ a, 0 ≤ f a) (lo : Int) (N : Nat) : 0 ≤ boxTo f lo N := sumTo_nonneg (fun _ _ => h _)
theorem boxTo_ge {f : Int → Int} (h : ∀ a, 0 ≤ f a) {lo a : Int} {N : Nat} (h1 : lo ≤ a) (h2 : a < lo + N) : f a ≤ boxTo f lo N := by
  have := sumTo_ge (f := fun k => f (lo + (k : Int))) (k := (a - lo).toNat) (n := N) (by omega) (fun _ _ => h _)
  have this : f (lo + ((a - lo).toNat : Int)) ≤ boxTo f lo N := this
  rw [show lo + ((a - lo).toNat : Int) = a from by omega] at this
  exact this
theorem box2_nonneg {f : Int → Int → Int} (h : ∀ a b, 0 ≤ f a b) (lo : Int) (N : Nat) : 0 ≤ box2 f lo N := boxTo_nonneg (fun _ => boxTo_nonneg (fun _ => h _ _) _ _) _ _
theorem box2_ge {f : Int → Int → Int} (h : ∀ a b, 0 ≤ f a b) {lo a b : Int} {N : Nat} (h1 : lo ≤ a) (h2 : a < lo + N) (h3 : lo ≤ b) (h4 : b < lo + N) : f a b ≤ box2 f lo N := by
  have e1 := boxTo_ge (f := f a) (h a) (lo := lo) (a := b) (N := N) h3 h4
  have e2 := boxTo_ge (f := fun a => boxTo (fun b => f a b) lo N) (fun _ => boxTo_nonneg (fun _ => h _ _) _ _) (lo := lo) (a := a) (N := N) h1 h2
  unfold box2
  exact Int.le_trans e1 e2

/-- The greatest of f 0 .. f (n - 1), and 0. -/
def mxTo (f : Nat → Int) : Nat → Int
  | 0 => 0
  | n + 1 => max (mxTo f n) (f n)
theorem mxTo_nonneg (f : Nat → Int) : ∀ n, 0 ≤ mxTo f n
  | 0 => Int.le_refl _
  | n + 1 => by have := mxTo_nonneg f n; show 0 ≤ max (mxTo f n) (f n); omega
theorem mxTo_ge (f : Nat → Int) {k : Nat} : ∀ {n : Nat}, k < n → f k ≤ mxTo f n
  | 0, hk => by omega
  | n + 1, hk => by
    show f k ≤ max (mxTo f n) (f n)
    by_cases e : k = n
    · subst e; omega
    · have := mxTo_ge f (k := k) (n := n) (by omega); omega
theorem mxTo_hit (f : Nat → Int) : ∀ n : Nat, mxTo f n = 0 ∨ ∃ k, k < n ∧ mxTo f n = f k
  | 0 => .inl rfl
  | n + 1 => by
    have e : mxTo f (n + 1) = max (mxTo f n) (f n) := rfl
    by_cases g : mxTo f n ≤ f n
    · exact .inr ⟨n, by omega, by rw [e]; omega⟩
    · rcases mxTo_hit f n with h | ⟨k, hk, h⟩
      · exact .inl (by rw [e]; omega)
      · exact .inr ⟨k, by omega, by rw [e]; omega⟩
def absI (a : Int) : Int := max a (-a)
theorem absI_nonneg (a : Int) : 0 ≤ absI a := by unfold absI; omega
/-- The greatest number without its sign over the box. -/
def mostRow (f : Int → Int → Int) (i : Nat) : Nat → Int := fun j => absI (f (-20 + (i : Int)) (-20 + (j : Int)))
def mostOf (f : Int → Int → Int) : Int := mxTo (fun i => mxTo (mostRow f i) 41) 41
theorem mostOf_nonneg (f : Int → Int → Int) : 0 ≤ mostOf f := mxTo_nonneg _ _
theorem mostOf_ge (f : Int → Int → Int) {a b : Int} (h : -20 ≤ a ∧ a ≤ 20 ∧ -20 ≤ b ∧ b ≤ 20) : absI (f a b) ≤ mostOf f := by
  have h1 := mxTo_ge (fun i => mxTo (mostRow f i) 41) (k := (a + 20).toNat) (n := 41) (by omega)
  have h2 := mxTo_ge (mostRow f (a + 20).toNat) (k := (b + 20).toNat) (n := 41) (by omega)
  have e : mostRow f (a + 20).toNat (b + 20).toNat = absI (f a b) := by
    unfold mostRow
    rw [show -20 + ((a + 20).toNat : Int) = a from by omega, show -20 + ((b + 20).toNat : Int) = b from by omega]
  rw [e] at h2
  exact Int.le_trans h2 h1
theorem mostOf_hit (f : Int → Int → Int) : mostOf f = 0 ∨ ∃ a b, (-20 ≤ a ∧ a ≤ 20 ∧ -20 ≤ b ∧ b ≤ 20) ∧ mostOf f = absI (f a b) := by
  rcases mxTo_hit (fun i => mxTo (mostRow f i) 41) 41 with h | ⟨i, hi, h⟩
  · exact .inl h
  · rcases mxTo_hit (mostRow f i) 41 with g | ⟨j, hj, g⟩
    · left; unfold mostOf; rw [h]; exact g
    · right
      refine ⟨-20 + (i : Int), -20 + (j : Int), by omega, ?_⟩
      unfold mostOf; rw [h]; exact g
/-- It is told by its two properties. -/
theorem mostOf_eq {f : Int → Int → Int} {m : Int} (h0 : 0 ≤ m) (h1 : ∀ a b, absI (f a b) ≤ m) (h2 : m = 0 ∨ ∃ a b, m = absI (f a b) ∧ (-20 ≤ a ∧ a ≤ 20 ∧ -20 ≤ b ∧ b ≤ 20)) : mostOf f = m := by
  have p := mostOf_nonneg f
  rcases mostOf_hit f with h | ⟨a, b, hb, h⟩
  · rcases h2 with g | ⟨a, b, g, hb⟩
    · omega
    · have := mostOf_ge f hb; have := h1 a b; omega
  · have q := h1 a b
    rcases h2 with g | ⟨a', b', g, hb'⟩
    · omega
    · have := mostOf_ge f hb'; omega

/-- At most one time in four steps. -/
theorem wd_four {l : List UInt8} (h : clL l = true) (a b : Int) : 4 * absI (wdL l a b) ≤ l.length := by
  have := wind_four (loop_of h) a b
  rw [wind_eq h] at this
  unfold absI; omega
theorem most_four {l : List UInt8} (h : clL l = true) : 4 * mostOf (wdL l) ≤ l.length := by
  rcases mostOf_hit (wdL l) with g | ⟨a, b, _, g⟩
  · rw [g]; omega
  · rw [g]; exact wd_four h a b

/-- Simple closed walks of more than two steps: one number c tells all. -/
theorem simple_c {l : List UInt8} (h : smL l = true) (hn : 2 < l.length) :
    ∃ c : Int, (c = 0 ∨ c = 1) ∧ (∀ a b, wdL l a b = c ∨ wdL l a b = c - 1) ∧ tnL l = 8 * c - 4 ∧
      (at0 l 0 = 101 → wdL l 0 0 = c ∧ wdL l 0 (-1) = c - 1) ∧ (at0 l 0 = 110 → wdL l (-1) 0 = c ∧ wdL l 0 0 = c - 1) ∧
      (at0 l 0 = 119 → wdL l (-1) (-1) = c ∧ wdL l (-1) 0 = c - 1) ∧ (at0 l 0 = 115 → wdL l 0 (-1) = c ∧ wdL l (-1) (-1) = c - 1) := by
  have hc := smL_cl h
  obtain ⟨c, h1, h2, h3, h4⟩ := (simple_of h).turning hn
  have s := h2 0
  have e0 := R_end hc (k := 0) (by omega)
  have e1 := R_end hc (k := 1) (by omega)
  rw [PX_zero, PY_zero] at e0
  rw [PX_succ, PY_succ, PX_zero, PY_zero] at e1
  rw [Nat.zero_add, e0.1, e0.2, e1.1, e1.2] at s
  have hw : wind l.length (RX l) (RY l) = wdL l := by funext a b; exact wind_eq hc a b
  rw [hw] at s h3
  rw [turn_eq hc] at h4
  unfold Side at s
  obtain ⟨s1, s2, s3, s4⟩ := s
  refine ⟨c, h1, h3, h4, fun e => ?_, fun e => ?_, fun e => ?_, fun e => ?_⟩
  · rw [e] at s1; simpa using s1 rfl
  · rw [e] at s2; simpa using s2 rfl
  · rw [e] at s3; exact s3 rfl
  · rw [e] at s4; exact s4 rfl

/-- Some square near the beginning is gone round. -/
theorem simple_some {l : List UInt8} (h : smL l = true) (hn : 2 < l.length) : ∃ a b, wdL l a b ≠ 0 ∧ (-20 ≤ a ∧ a < 20 ∧ -20 ≤ b ∧ b < 20) := by
  obtain ⟨c, h1, _, _, g1, g2, g3, g4⟩ := simple_c h hn
  have hs := isStep_cases (wkL_step (clL_wk (smL_cl h)) (k := 0) (by omega))
  by_cases hc : c = 0
  · rcases hs with e | e | e | e
    · exact ⟨0, -1, by have := g1 e; omega, by omega⟩
    · exact ⟨0, 0, by have := g2 e; omega, by omega⟩
    · exact ⟨-1, 0, by have := g3 e; omega, by omega⟩
    · exact ⟨-1, -1, by have := g4 e; omega, by omega⟩
  · rcases hs with e | e | e | e
    · exact ⟨0, 0, by have := g1 e; omega, by omega⟩
    · exact ⟨-1, 0, by have := g2 e; omega, by omega⟩
    · exact ⟨-1, -1, by have := g3 e; omega, by omega⟩
    · exact ⟨0, -1, by have := g4 e; omega, by omega⟩

theorem simple_most {l : List UInt8} (h : smL l = true) (hn : 2 < l.length) : mostOf (wdL l) = 1 := by
  obtain ⟨c, h1, h2, _⟩ := simple_c h hn
  obtain ⟨a, b, hw, hb⟩ := simple_some h hn
  refine mostOf_eq (by omega) (fun a b => ?_) (.inr ⟨a, b, ?_, by omega⟩)
  · have := h2 a b; unfold absI; omega
  · have := h2 a b; unfold absI; omega

/-- All windings together: the area. -/
def awL (l : List UInt8) : Int := box2 (wdL l) (-20) 41
theorem aw_area {l : List UInt8} (h : clL l = true) : awL l = arL l := by
  have hw : wind l.length (RX l) (RY l) = wdL l := by funext a b; exact wind_eq h a b
  have := (loop_of h).area (lo := -20) (N := 41) (fun k => by have := half_of h k; omega) (fun k => by have := half_of h k; omega)
  rw [hw, area_eq h] at this
  exact this
theorem aw_area' {l : List UInt8} (h : clL l = true) : box2 (wdL l) (-40) 81 = arL l := by
  have hw : wind l.length (RX l) (RY l) = wdL l := by funext a b; exact wind_eq h a b
  have := (loop_of h).area (lo := -40) (N := 81) (fun k => by have := half_of h k; omega) (fun k => by have := half_of h k; omega)
  rw [hw, area_eq h] at this
  exact this

/-- The area's sign is that of the turning. -/
theorem simple_area {l : List UInt8} (h : smL l = true) (hn : 2 < l.length) : arL l ≠ 0 ∧ (0 < arL l ↔ 0 < tnL l) := by
  obtain ⟨c, h1, h2, h3, _⟩ := simple_c h hn
  obtain ⟨a, b, hw, hb⟩ := simple_some h hn
  rw [← aw_area (smL_cl h), h3]
  unfold awL
  rcases h1 with rfl | rfl
  · have p : ∀ a b, 0 ≤ -1 * wdL l a b := fun a b => by have := h2 a b; omega
    have g := box2_ge p (lo := -20) (a := a) (b := b) (N := 41) (by omega) (by omega) (by omega) (by omega)
    rw [box2_mul] at g
    have := h2 a b
    omega
  · have p : ∀ a b, 0 ≤ wdL l a b := fun a b => by have := h2 a b; omega
    have g := box2_ge p (lo := -20) (a := a) (b := b) (N := 41) (by omega) (by omega) (by omega) (by omega)
    have := h2 a b
    omega
theorem simple_turn {l : List UInt8} (h : smL l = true) (hn : 2 < l.length) : tnL l = 4 ∨ tnL l = -4 := by
  obtain ⟨c, h1, _, h3, _⟩ := simple_c h hn
  omega

/-- Is a square within? -/
def inL (l : List UInt8) (a b : Int) : Bool := decide (cnL l a b % 2 = 1)
theorem inL_wd (l : List UInt8) (a b : Int) : inL l a b = decide (wdL l a b % 2 = 1) := by unfold inL; rw [(cnL_mod l a b).1]
/-- The squares within. -/
def sqL (l : List UInt8) : Int := box2 (fun a b => if inL l a b then 1 else 0) (-40) 81

/-- Two steps: there and back. -/
theorem two_wd {l : List UInt8} (h : clL l = true) (hn : l.length ≤ 2) (a b : Int) : wdL l a b = 0 := by
  obtain ⟨e1, e2⟩ := clL_end h
  have p := clL_pos h
  have w := clL_wk h
  match l, hn with
  | [], _ => simp at p
  | [x], _ =>
    have m := isStep_move (wkL_step w (k := 0) (by simp))
    simp only [List.length_cons, List.length_nil] at e1 e2
    rw [PX_succ, PX_zero] at e1
    rw [PY_succ, PY_zero] at e2
    omega
  | [x, y], _ =>
    have m0 := isStep_move (wkL_step w (k := 0) (by simp))
    have m1 := isStep_move (wkL_step w (k := 1) (by simp))
    simp only [List.length_cons, List.length_nil] at e1 e2
    rw [PX_succ, PX_succ, PX_zero] at e1
    rw [PY_succ, PY_succ, PY_zero] at e2
    unfold wdL
    show sumTo _ 2 = 0
    simp only [sumTo]
    rw [show 0 + 1 + 1 = 2 from rfl, show (0 : Nat) + 1 = 1 from rfl] at *
    rw [show PY [x, y] 2 = PY [x, y] 1 + dyB (at0 [x, y] 1) from rfl, show PY [x, y] 1 = PY [x, y] 0 + dyB (at0 [x, y] 0) from rfl, show PX [x, y] 1 = PX [x, y] 0 + dxB (at0 [x, y] 0) from rfl, PX_zero, PY_zero]
    generalize dxB (at0 [x, y] 0) = d0 at *
    generalize dxB (at0 [x, y] 1) = d1 at *
    generalize dyB (at0 [x, y] 0) = f0 at *
    generalize dyB (at0 [x, y] 1) = f1 at *
    split <;> split <;> omega

theorem odd_even {w c : Int} (hc : c = 0 ∨ c = 1) (h : w = c ∨ w = c - 1) : (if w = 0 then 0 else 1 : Int) = (2 * c - 1) * w ∧ (w % 2 = 1 ↔ w ≠ 0) := by
  rcases hc with rfl | rfl
  · rcases h with rfl | rfl <;> decide
  · rcases h with rfl | rfl <;> decide
/-- Areas are squares. -/
theorem sq_area {l : List UInt8} (h : smL l = true) : sqL l = max (arL l) (- arL l) := by
  have hc := smL_cl h
  by_cases hn : 2 < l.length
  · obtain ⟨c, h1, h2, h3, _⟩ := simple_c h hn
    have s := simple_area h hn
    have e : sqL l = (2 * c - 1) * box2 (wdL l) (-40) 81 := by
      unfold sqL
      rw [← box2_mul]
      refine box2_congr (fun a b _ _ _ _ => ?_)
      have o := odd_even h1 (h2 a b)
      rw [inL_wd, ← o.1]
      by_cases g : wdL l a b = 0
      · rw [if_pos g, if_neg]; simp only [decide_eq_true_eq]; exact fun c => o.2.1 c g
      · rw [if_neg g, if_pos]; simp only [decide_eq_true_eq]; exact o.2.2 g
    rw [e, aw_area' hc]
    rw [h3] at s
    rcases h1 with rfl | rfl <;> omega
  · have z := two_wd hc (by omega)
    have e1 : arL l = 0 := by
      rw [← aw_area' hc]
      exact (box2_congr (g := fun _ _ => 0) (fun a b _ _ _ _ => z a b)).trans (by decide +kernel)
    have e2 : sqL l = 0 := by
      unfold sqL
      exact (box2_congr (g := fun _ _ => 0) (fun a b _ _ _ _ => by rw [inL_wd, z a b]; rfl)).trans (by decide +kernel)
    rw [e1, e2]; rfl

/-- Does the walk come there? -/
def onL (l : List UInt8) (a b : Int) : Bool := (List.range (l.length + 1)).any (fun k => decide (PX l k = a) && decide (PY l k = b))
theorem onL_iff {l : List UInt8} (h : clL l = true) (a b : Int) : onL l a b = true ↔ ∃ k, RX l k = a ∧ RY l k = b := by
  unfold onL
  rw [List.any_eq_true]
  constructor
  · rintro ⟨k, hk, e⟩
    simp only [Bool.and_eq_true, decide_eq_true_eq] at e
    have := R_end h (k := k) (by have := List.mem_range.1 hk; omega)
    exact ⟨k, by rw [this.1]; exact e.1, by rw [this.2]; exact e.2⟩
  · rintro ⟨k, e1, e2⟩
    refine ⟨k % l.length, List.mem_range.2 (by have := Nat.mod_lt k (clL_pos h); omega), ?_⟩
    simp only [Bool.and_eq_true, decide_eq_true_eq]
    exact ⟨e1, e2⟩
/-- A crossing within, and not on the walk. -/
def crB (l : List UInt8) (a b : Int) : Bool := !onL l a b && inL l a b && inL l (a - 1) b && inL l a (b - 1) && inL l (a - 1) (b - 1)
def crL (l : List UInt8) : Int := box2 (fun a b => if crB l a b then 1 else 0) (-20) 41

/-- Where nothing is outside of the inner box, the outer box says the same. -/
theorem boxTo_inner {f : Int → Int} (h : ∀ a, ¬ (-20 ≤ a ∧ a ≤ 20) → f a = 0) : boxTo f (-40) 81 = boxTo f (-20) 41 := by
  unfold boxTo
  rw [show (81 : Nat) = 20 + (41 + 20) from rfl, sumTo_split, sumTo_split]
  rw [sumTo_zero (f := fun k => f (-40 + (k : Int))) (fun k hk => h _ (by omega))]
  rw [sumTo_zero (n := 20) (fun k hk => h _ (by omega))]
  rw [sumTo_congr (n := 41) (g := fun k => f (-20 + (k : Int))) (fun k hk => by congr 1; omega)]
  omega
theorem box2_inner {f : Int → Int → Int} (h : ∀ a b, ¬ (-20 ≤ a ∧ a ≤ 20 ∧ -20 ≤ b ∧ b ≤ 20) → f a b = 0) : box2 f (-40) 81 = box2 f (-20) 41 := by
  unfold box2
  rw [boxTo_inner (fun a ha => boxTo_zero (fun b _ _ => h a b (by omega)))]
  exact boxTo_congr (fun a _ _ => boxTo_inner (fun b hb => h a b (by omega)))

/-- Squares are crossings. -/
theorem sq_cross {l : List UInt8} (h : smL l = true) (hn : 2 < l.length) : 2 * sqL l = 2 * crL l + l.length - 2 := by
  have hc := smL_cl h
  obtain ⟨c, h1, h2, h3, _⟩ := simple_c h hn
  have hw : wind l.length (RX l) (RY l) = wdL l := by funext a b; exact wind_eq hc a b
  have p := (simple_of h).pick hn (onL l) (onL_iff hc) (lo := -40) (N := 81) (fun k => by have := half_of hc k; omega) (fun k => by have := half_of hc k; omega)
  rw [hw] at p
  have e1 : box2 (fun a b => if wdL l a b = 0 then 0 else 1) (-40) 81 = sqL l := by
    unfold sqL
    refine box2_congr (fun a b _ _ _ _ => ?_)
    have o := odd_even h1 (h2 a b)
    rw [inL_wd]
    by_cases g : wdL l a b = 0
    · rw [if_pos g, if_neg]; simp only [decide_eq_true_eq]; exact fun c => o.2.1 c g
    · rw [if_neg g, if_pos]; simp only [decide_eq_true_eq]; exact o.2.2 g
  have e2 : box2 (fun a b => if onL l a b = false ∧ wdL l a b ≠ 0 then 1 else 0) (-40) 81 = crL l := by
    unfold crL
    rw [box2_inner (fun a b hb => by rw [if_neg]; exact fun c => c.2 (wd_box hc a b (by omega)))]
    refine box2_congr (fun a b _ _ _ _ => ?_)
    unfold crB
    by_cases o : onL l a b = true
    · rw [if_neg (by rw [o]; simp), if_neg (by rw [o]; simp)]
    · have o' : onL l a b = false := by simpa using o
      have f := (loop_of hc).four_off a b (fun k hk => o ((onL_iff hc a b).2 ⟨k, hk⟩))
      rw [hw] at f
      rw [o', inL_wd, inL_wd, inL_wd, inL_wd, f.1, f.2.1, f.2.2]
      have od := odd_even h1 (h2 a b)
      by_cases g : wdL l a b = 0
      · rw [g]; rfl
      · have := od.2.2 g
        simp [g, this]
  rw [e1, e2] at p
  exact p
theorem two_cross {l : List UInt8} (h : clL l = true) (hn : l.length ≤ 2) : crL l = 0 := by
  have z := two_wd h hn
  unfold crL
  exact (box2_congr (g := fun _ _ => 0) (fun a b _ _ _ _ => by unfold crB; rw [inL_wd l a b, z a b]; simp)).trans (by decide +kernel)

/-- The squares on both sides of the first step. -/
theorem sides_of {l : List UInt8} (h : smL l = true) (hn : 2 < l.length) (a b c d : Int)
    (hk : (at0 l 0 = 101 ∧ a = 0 ∧ b = 0 ∧ c = 0 ∧ d = -1) ∨ (at0 l 0 = 110 ∧ a = -1 ∧ b = 0 ∧ c = 0 ∧ d = 0) ∨ (at0 l 0 = 119 ∧ a = -1 ∧ b = -1 ∧ c = -1 ∧ d = 0) ∨ (at0 l 0 = 115 ∧ a = 0 ∧ b = -1 ∧ c = -1 ∧ d = -1)) :
    inL l a b = decide (0 < tnL l) ∧ inL l c d = decide (tnL l < 0) := by
  obtain ⟨e, h1, _, h3, g1, g2, g3, g4⟩ := simple_c h hn
  have key : wdL l a b = e ∧ wdL l c d = e - 1 := by
    rcases hk with ⟨k, rfl, rfl, rfl, rfl⟩ | ⟨k, rfl, rfl, rfl, rfl⟩ | ⟨k, rfl, rfl, rfl, rfl⟩ | ⟨k, rfl, rfl, rfl, rfl⟩
    · exact g1 k
    · exact g2 k
    · exact g3 k
    · exact g4 k
  rw [inL_wd, inL_wd, key.1, key.2, h3]
  rcases h1 with rfl | rfl <;> decide
theorem far_in {l : List UInt8} (h : clL l = true) : inL l 40 0 = false ∧ inL l 0 (-40) = false := by
  rw [inL_wd, inL_wd, wd_box h 40 0 (by omega), wd_box h 0 (-40) (by omega)]; decide
end Go.Proofs.TW
