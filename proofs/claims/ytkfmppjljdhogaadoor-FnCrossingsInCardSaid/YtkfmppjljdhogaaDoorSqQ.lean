/- Sets of squares told row by row. Plain Lean. -/
import Derived.Test.YtkfmppjljdhogaaDoorSqP
namespace Go.Proofs.TW

/-- The squares within of the rows below Y, and those of row Y to the west of X. -/
def sqV (l : List UInt8) (Y X a b : Int) : Bool := inL l a b && (decide (b < Y) || (decide (b = Y) && decide (a < X)))
theorem sqV_start {l : List UInt8} (h : clL l = true) (a b : Int) : sqV l (loy l) (lox l) a b = false := by
  unfold sqV
  cases hi : inL l a b with
  | false => rfl
  | true => have := in_bounds h hi; simp; omega
theorem sqV_row {l : List UInt8} (h : clL l = true) (Y a b : Int) : sqV l Y (hix l) a b = sqV l (Y + 1) (lox l) a b := by
  unfold sqV
  cases hi : inL l a b with
  | false => rfl
  | true => have := in_bounds h hi; rw [Bool.eq_iff_iff]; simp; omega
theorem sqV_end {l : List UInt8} (h : clL l = true) (a b : Int) : sqV l (hiy l) (lox l) a b = inL l a b := by
  unfold sqV
  cases hi : inL l a b with
  | false => rfl
  | true => have := in_bounds h hi; simp; omega
theorem sqV_no {l : List UInt8} {Y X : Int} (h : inL l X Y = false) (a b : Int) : sqV l Y (X + 1) a b = sqV l Y X a b := by
  unfold sqV
  cases hi : inL l a b with
  | false => rfl
  | true =>
    have : ¬ (a = X ∧ b = Y) := fun ⟨e1, e2⟩ => by rw [e1, e2, h] at hi; cases hi
    rw [Bool.eq_iff_iff]; simp; omega
theorem sqV_yes {l : List UInt8} {Y X : Int} (h : inL l X Y = true) (a b : Int) : sqV l Y (X + 1) a b = true ↔ (sqV l Y X a b = true ∨ (a = X ∧ b = Y)) := by
  unfold sqV
  by_cases c : a = X ∧ b = Y
  · obtain ⟨rfl, rfl⟩ := c
    rw [h]; simp; omega
  · simp only [Bool.and_eq_true, Bool.or_eq_true, decide_eq_true_eq]
    constructor
    · rintro ⟨h1, h2 | ⟨h2, h3⟩⟩
      · exact .inl ⟨h1, .inl h2⟩
      · exact .inl ⟨h1, .inr ⟨h2, by omega⟩⟩
    · rintro (⟨h1, h2 | ⟨h2, h3⟩⟩ | h2)
      · exact ⟨h1, .inl h2⟩
      · exact ⟨h1, .inr ⟨h2, by omega⟩⟩
      · exact absurd h2 c
theorem sqV_new (l : List UInt8) (Y X : Int) : sqV l Y X X Y = false := by
  unfold sqV; cases inL l X Y <;> simp
/-- How many squares a set has. -/
def cntV (V : Int → Int → Bool) : Int := box2 (fun a b => if V a b then 1 else 0) (-40) 81
theorem cntV_none {V : Int → Int → Bool} (h : ∀ a b, V a b = false) : cntV V = 0 := box2_nought _ _ (fun a b => by rw [h a b]; rfl)
theorem cntV_congr {V V' : Int → Int → Bool} (h : ∀ a b, V a b = V' a b) : cntV V = cntV V' := by
  have : V = V' := by funext a b; exact h a b
  rw [this]
theorem cntV_put {V V' : Int → Int → Bool} {p q : Int} (hb : -20 ≤ p ∧ p ≤ 20 ∧ -20 ≤ q ∧ q ≤ 20) (h0 : V p q = false) (h : ∀ a b, V' a b = true ↔ (V a b = true ∨ (a = p ∧ b = q))) : cntV V' = cntV V + 1 := by
  have h1 : V' p q = true := (h p q).2 (.inr ⟨rfl, rfl⟩)
  unfold cntV
  rw [box2_upd (f := fun a b => if V a b then 1 else 0) (p := p) (q := q) (by omega) (by omega) (by omega) (by omega) (fun a b hab => by
    have : V' a b = V a b := by rw [Bool.eq_iff_iff, h a b]; simp [hab]
    rw [this]), h0, h1]
  rfl
end Go.Proofs.TW
