/- Bounds of a walk; sums over boxes that change at one place; rows of squares scanned from the west; windings summed up. Plain Lean. -/
import Derived.Test.YtkfmppjljdhogaaDoorUpP
namespace Go.Proofs.TW

/-- The least and the greatest of nought and the first numbers. -/
def loT (f : Nat → Int) : Nat → Int
  | 0 => 0
  | k + 1 => min (loT f k) (f k)
def hiT (f : Nat → Int) : Nat → Int
  | 0 => 0
  | k + 1 => max (hiT f k) (f k)
theorem loT_succ (f : Nat → Int) (k : Nat) : loT f (k + 1) = min (loT f k) (f k) := rfl
theorem hiT_succ (f : Nat → Int) (k : Nat) : hiT f (k + 1) = max (hiT f k) (f k) := rfl
theorem loT_le (f : Nat → Int) {j : Nat} : ∀ {n : Nat}, j < n → loT f n ≤ f j
  | 0, h => by omega
  | n + 1, h => by
    rw [loT_succ]
    by_cases e : j = n
    · subst e; omega
    · have := loT_le f (j := j) (n := n) (by omega); omega
theorem hiT_ge (f : Nat → Int) {j : Nat} : ∀ {n : Nat}, j < n → f j ≤ hiT f n
  | 0, h => by omega
  | n + 1, h => by
    rw [hiT_succ]
    by_cases e : j = n
    · subst e; omega
    · have := hiT_ge f (j := j) (n := n) (by omega); omega
theorem loT_ge {f : Nat → Int} {b : Int} (hb : b ≤ 0) : ∀ {n : Nat}, (∀ j, j < n → b ≤ f j) → b ≤ loT f n ∧ loT f n ≤ 0
  | 0, _ => ⟨hb, Int.le_refl _⟩
  | n + 1, h => by
    have ih := loT_ge hb (n := n) (fun j hj => h j (by omega))
    have := h n (by omega)
    rw [loT_succ]; omega
theorem hiT_le {f : Nat → Int} {b : Int} (hb : 0 ≤ b) : ∀ {n : Nat}, (∀ j, j < n → f j ≤ b) → 0 ≤ hiT f n ∧ hiT f n ≤ b
  | 0, _ => ⟨Int.le_refl _, hb⟩
  | n + 1, h => by
    have ih := hiT_le hb (n := n) (fun j hj => h j (by omega))
    have := h n (by omega)
    rw [hiT_succ]; omega

/-- The bounds of a walk. -/
def lox (l : List UInt8) : Int := loT (PX l) (l.length + 1)
def loy (l : List UInt8) : Int := loT (PY l) (l.length + 1)
def hix (l : List UInt8) : Int := hiT (PX l) (l.length + 1)
def hiy (l : List UInt8) : Int := hiT (PY l) (l.length + 1)
theorem bounds_le {l : List UInt8} (h : clL l = true) : (-20 ≤ lox l ∧ lox l ≤ 0) ∧ (-20 ≤ loy l ∧ loy l ≤ 0) ∧ (0 ≤ hix l ∧ hix l ≤ 20) ∧ (0 ≤ hiy l ∧ hiy l ≤ 20) :=
  ⟨loT_ge (by omega) (fun j hj => (half_P h (k := j) (by omega)).1), loT_ge (by omega) (fun j hj => (half_P h (k := j) (by omega)).2.2.1), hiT_le (by omega) (fun j hj => (half_P h (k := j) (by omega)).2.1), hiT_le (by omega) (fun j hj => (half_P h (k := j) (by omega)).2.2.2)⟩
theorem R_bounds {l : List UInt8} (h : clL l = true) (k : Nat) : lox l ≤ RX l k ∧ RX l k ≤ hix l ∧ loy l ≤ RY l k ∧ RY l k ≤ hiy l := by
  have hk : k % l.length < l.length + 1 := by have := Nat.mod_lt k (clL_pos h); omega
  exact ⟨loT_le (PX l) hk, hiT_ge (PX l) hk, loT_le (PY l) hk, hiT_ge (PY l) hk⟩
/-- Outside of the bounds nothing is gone round. -/
theorem wd_bounds {l : List UInt8} (h : clL l = true) (a b : Int) (ho : ¬ (lox l ≤ a ∧ a < hix l ∧ loy l ≤ b ∧ b < hiy l)) : wdL l a b = 0 := by
  rw [← wind_eq h]
  by_cases h1 : a < lox l
  · exact wind_far_west (loop_of h) a b (fun k => by have := R_bounds h k; omega)
  · by_cases h2 : hix l ≤ a
    · exact wind_far_east a b (fun k => by have := R_bounds h k; omega)
    · by_cases h3 : b < loy l
      · exact wind_far_south a b (fun k => by have := R_bounds h k; omega)
      · exact wind_far_north a b (fun k => by have := R_bounds h k; omega)
theorem in_bounds {l : List UInt8} (h : clL l = true) {a b : Int} (hi : inL l a b = true) : lox l ≤ a ∧ a < hix l ∧ loy l ≤ b ∧ b < hiy l := by
  apply Classical.byContradiction
  intro hn
  rw [inL_wd, wd_bounds h a b hn] at hi
  simp at hi

/-- One place changed. -/
theorem box2_upd {f g : Int → Int → Int} {lo : Int} {n : Nat} {p q : Int} (h1 : lo ≤ p) (h2 : p < lo + n) (h3 : lo ≤ q) (h4 : q < lo + n)
    (h : ∀ a b, ¬ (a = p ∧ b = q) → g a b = f a b) : box2 g lo n = box2 f lo n + (g p q - f p q) := by
  have e : box2 g lo n = box2 (fun a b => f a b + (g a b - f a b)) lo n := box2_congr (fun a b _ _ _ _ => by omega)
  rw [e, box2_add, box2_single (f := fun a b => g a b - f a b) h1 h2 h3 h4 (fun a b hab => by
    have := h a b (fun ⟨e1, e2⟩ => by rcases hab with h | h <;> exact h (by assumption))
    omega)]
theorem box2_nought (lo : Int) (n : Nat) {f : Int → Int → Int} (h : ∀ a b, f a b = 0) : box2 f lo n = 0 := boxTo_zero (fun a _ _ => boxTo_zero (fun b _ _ => h a b))
theorem mostOf_upd {f g : Int → Int → Int} {p q : Int} (hb : -20 ≤ p ∧ p ≤ 20 ∧ -20 ≤ q ∧ q ≤ 20) (h0 : f p q = 0) (h : ∀ a b, ¬ (a = p ∧ b = q) → g a b = f a b) : mostOf g = max (mostOf f) (absI (g p q)) := by
  have z : absI 0 = 0 := rfl
  have hle : mostOf g ≤ max (mostOf f) (absI (g p q)) := by
    rcases mostOf_hit g with e | ⟨a, b, hab, e⟩
    · have := mostOf_nonneg f; omega
    · rw [e]
      by_cases c : a = p ∧ b = q
      · rw [c.1, c.2]; omega
      · rw [h a b c]; have := mostOf_ge f hab; omega
  have hge1 := mostOf_ge g hb
  have hge2 : mostOf f ≤ mostOf g := by
    rcases mostOf_hit f with e | ⟨a, b, hab, e⟩
    · have := mostOf_nonneg g; omega
    · rw [e]
      by_cases c : a = p ∧ b = q
      · rw [c.1, c.2, h0, z]; exact mostOf_nonneg g
      · rw [← h a b c]; exact mostOf_ge g hab
  omega
theorem mostOf_nought {f : Int → Int → Int} (h : ∀ a b, f a b = 0) : mostOf f = 0 := by
  rcases mostOf_hit f with e | ⟨a, b, _, e⟩
  · exact e
  · rw [e, h a b]; rfl
theorem mostOf_congr {f g : Int → Int → Int} (h : ∀ a b, f a b = g a b) : mostOf f = mostOf g := by
  have : f = g := by funext a b; exact h a b
  rw [this]

/-- How many upright steps of a row are at X; farther to the west than X. -/
def stU (us : List Upr) (b x : Int) (i : Nat) : Int := sumTo (fun j => if (upAt us j).y = b ∧ (upAt us j).x = x then 1 else 0) i
def ltU (us : List Upr) (b x : Int) : Int := sumTo (fun j => if (upAt us j).y = b ∧ (upAt us j).x < x then 1 else 0) us.length
theorem stU_succ (us : List Upr) (b x : Int) (i : Nat) : stU us b x (i + 1) = stU us b x i + if (upAt us i).y = b ∧ (upAt us i).x = x then 1 else 0 := rfl
theorem stU_le (us : List Upr) (b x : Int) : ∀ i : Nat, 0 ≤ stU us b x i ∧ stU us b x i ≤ i
  | 0 => by unfold stU; simp [sumTo]
  | i + 1 => by
    have ih := stU_le us b x i
    rw [stU_succ]
    split <;> omega
theorem ltU_step (us : List Upr) (b x : Int) : ltU us b (x + 1) = ltU us b x + stU us b x us.length := by
  unfold ltU stU
  rw [← sumTo_add]
  refine sumTo_congr (fun j _ => ?_)
  by_cases h : (upAt us j).y = b
  · by_cases h1 : (upAt us j).x < x
    · rw [if_pos ⟨h, by omega⟩, if_pos ⟨h, h1⟩, if_neg (fun c => by omega)]; rfl
    · by_cases h2 : (upAt us j).x = x
      · rw [if_pos ⟨h, by omega⟩, if_neg (fun c => h1 c.2), if_pos ⟨h, h2⟩]; rfl
      · rw [if_neg (fun c => by omega), if_neg (fun c => h1 c.2), if_neg (fun c => h2 c.2)]; rfl
  · rw [if_neg (fun c => h c.1), if_neg (fun c => h c.1), if_neg (fun c => h c.1)]; rfl
/-- Is that number odd? -/
def odU (us : List Upr) (b x : Int) : Bool := decide (ltU us b x % 2 = 1)
theorem odU_step (us : List Upr) (b x : Int) : odU us b (x + 1) = if stU us b x us.length % 2 = 1 then !odU us b x else odU us b x := by
  unfold odU
  rw [ltU_step]
  by_cases h : stU us b x us.length % 2 = 1
  · rw [if_pos h, Bool.eq_iff_iff]; simp; omega
  · rw [if_neg h, Bool.eq_iff_iff]; simp; omega
theorem odU_start {us : List Upr} {b x : Int} (h : ∀ j, j < us.length → x ≤ (upAt us j).x) : odU us b x = false := by
  have : ltU us b x = 0 := sumTo_zero (fun j hj => by rw [if_neg]; have := h j hj; omega)
  unfold odU; rw [this]; rfl
theorem up_west {l : List UInt8} {j : Nat} (hj : j < (upL l l.length).length) : lox l ≤ (upAt (upL l l.length) j).x ∧ (upAt (upL l l.length) j).x ≤ hix l ∧ loy l ≤ (upAt (upL l l.length) j).y ∧ (upAt (upL l l.length) j).y ≤ hiy l := by
  obtain ⟨i, hi, e, _⟩ := upL_mem (upAt_mem hj)
  rw [e]
  have h1 := loT_le (PX l) (j := i) (n := l.length + 1) (by omega)
  have h2 := hiT_ge (PX l) (j := i) (n := l.length + 1) (by omega)
  have h3 := loT_le (PY l) (j := i) (n := l.length + 1) (by omega)
  have h4 := loT_le (PY l) (j := i + 1) (n := l.length + 1) (by omega)
  have h5 := hiT_ge (PY l) (j := i) (n := l.length + 1) (by omega)
  have h6 := hiT_ge (PY l) (j := i + 1) (n := l.length + 1) (by omega)
  unfold lox hix loy hiy
  simp only
  omega
/-- Scanned from the west it is told as from the east. -/
theorem odU_in {l : List UInt8} (h : clL l = true) (b x : Int) : odU (upL l l.length) b (x + 1) = inL l x b := by
  have e1 : ltU (upL l l.length) b (x + 1) + cnU (upL l l.length) x b (upL l l.length).length = cnU (upL l l.length) (-100) b (upL l l.length).length := by
    unfold ltU cnU
    rw [← sumTo_add]
    refine sumTo_congr (fun j hj => ?_)
    have hx := up_west hj
    have hb := bounds_le h
    by_cases hy : (upAt (upL l l.length) j).y = b
    · by_cases h1 : x < (upAt (upL l l.length) j).x
      · rw [if_neg (fun c => by omega), if_pos ⟨hy, h1⟩, if_pos ⟨hy, by omega⟩]; rfl
      · rw [if_pos ⟨hy, by omega⟩, if_neg (fun c => h1 c.2), if_pos ⟨hy, by omega⟩]; rfl
    · rw [if_neg (fun c => hy c.1), if_neg (fun c => hy c.1), if_neg (fun c => hy c.1)]; rfl
  rw [cnU_all, cnU_all] at e1
  have e2 := (cnL_mod l (-100) b).1
  rw [wd_box h (-100) b (by omega)] at e2
  unfold odU inL
  rw [Bool.eq_iff_iff]
  simp only [decide_eq_true_eq]
  omega

/-- The windings so far: of the first i upright steps, and of the next one as far as X. -/
def wpP (us : List Upr) (lo : Int) (a b : Int) (i : Nat) : Int := sumTo (fun j => if (upAt us j).y = b ∧ lo ≤ a ∧ a < (upAt us j).x then (upAt us j).up else 0) i
def wpQ (us : List Upr) (lo : Int) (i : Nat) (x a b : Int) : Int := wpP us lo a b i + if (upAt us i).y = b ∧ lo ≤ a ∧ a < x then (upAt us i).up else 0
theorem wpQ_start (us : List Upr) (lo : Int) (i : Nat) (a b : Int) : wpQ us lo i lo a b = wpP us lo a b i := by
  unfold wpQ; rw [if_neg (fun c => by omega)]; omega
theorem wpQ_end (us : List Upr) (lo : Int) (i : Nat) (a b : Int) : wpQ us lo i (upAt us i).x a b = wpP us lo a b (i + 1) := rfl
theorem wpQ_step {us : List Upr} {lo : Int} {i : Nat} {x : Int} (hx : lo ≤ x) (a b : Int) : wpQ us lo i (x + 1) a b = if a = x ∧ b = (upAt us i).y then wpQ us lo i x a b + (upAt us i).up else wpQ us lo i x a b := by
  unfold wpQ
  by_cases h1 : (upAt us i).y = b
  · by_cases h2 : a = x
    · rw [if_pos (show a = x ∧ b = (upAt us i).y from ⟨h2, h1.symm⟩), if_pos ⟨h1, by omega, by omega⟩, if_neg (fun c => by omega)]; omega
    · rw [if_neg (show ¬ (a = x ∧ b = (upAt us i).y) from fun c => h2 c.1)]
      by_cases h3 : lo ≤ a ∧ a < x
      · rw [if_pos ⟨h1, h3.1, by omega⟩, if_pos ⟨h1, h3.1, h3.2⟩]
      · rw [if_neg (fun c => by omega), if_neg (fun c => h3 ⟨c.2.1, c.2.2⟩)]
  · rw [if_neg (fun c => h1 c.1), if_neg (show ¬ (a = x ∧ b = (upAt us i).y) from fun c => h1 c.2.symm), if_neg (fun c => h1 c.1)]
theorem wpP_all {l : List UInt8} (h : clL l = true) (a b : Int) : wpP (upL l l.length) (lox l) a b (upL l l.length).length = wdL l a b := by
  by_cases ha : lox l ≤ a
  · rw [← wdU_all]
    unfold wpP wdU
    refine sumTo_congr (fun j _ => ?_)
    by_cases c : (upAt (upL l l.length) j).y = b ∧ a < (upAt (upL l l.length) j).x
    · rw [if_pos ⟨c.1, ha, c.2⟩, if_pos c]
    · rw [if_neg (fun d => c ⟨d.1, d.2.2⟩), if_neg c]
  · rw [wd_bounds h a b (fun c => ha c.1)]
    exact sumTo_zero (fun j _ => by rw [if_neg (fun d => ha d.2.1)])
theorem wpP_le (us : List Upr) (lo a b : Int) (hu : ∀ j, j < us.length → -1 ≤ (upAt us j).up ∧ (upAt us j).up ≤ 1) : ∀ i : Nat, i ≤ us.length → -(i : Int) ≤ wpP us lo a b i ∧ wpP us lo a b i ≤ i
  | 0, _ => by unfold wpP; simp [sumTo]
  | i + 1, hi => by
    have ih := wpP_le us lo a b hu i (by omega)
    have := hu i (by omega)
    have e : wpP us lo a b (i + 1) = wpP us lo a b i + if (upAt us i).y = b ∧ lo ≤ a ∧ a < (upAt us i).x then (upAt us i).up else 0 := rfl
    rw [e]
    split <;> omega
theorem wpQ_le {us : List Upr} (lo a b x : Int) (hu : ∀ j, j < us.length → -1 ≤ (upAt us j).up ∧ (upAt us j).up ≤ 1) {i : Nat} (hi : i < us.length) : -((i : Int) + 1) ≤ wpQ us lo i x a b ∧ wpQ us lo i x a b ≤ (i : Int) + 1 := by
  have h1 := wpP_le us lo a b hu i (by omega)
  have h2 := hu i hi
  unfold wpQ
  split <;> omega
end Go.Proofs.TW
