/- What FnCurveWalk says of the curve's walk. Plain Lean. -/
import Derived.Test.YtbklcalpojkjfaaDoorCurveP
import Derived.Test.YtbklcalpojkjfaaDoorP1
namespace Go.Proofs.TW
open Go.RowKit

theorem cvW_get (h : Nat) : ∀ m k : Nat, k < m → (cvW h m)[k]? = some (cvC (cvD h k))
  | 0, k, hk => absurd hk (by omega)
  | m + 1, k, hk => by
    have e := cvW_length h m
    rw [cvW]
    by_cases hkm : k < m
    · rw [List.getElem?_append_left (by omega)]; exact cvW_get h m k hkm
    · obtain rfl : k = m := by omega
      rw [List.getElem?_append_right (by omega), e]; simp

theorem curve_none {x : Int} (h : x ≤ 0 ∨ 5 < x) : curveS x = ⟨#[]⟩ := by
  unfold curveS
  split
  · rename_i hv
    unfold hvOk at hv
    simp at hv
    obtain rfl : x = 0 := by omega
    rfl
  · rfl

/-- A letter is that of the step from one cell to another. -/
def LetStep (b : UInt8) (p q : Nat × Nat) : Prop :=
  (b = 101 ∧ q.1 = p.1 + 1 ∧ q.2 = p.2) ∨ (b = 110 ∧ q.1 = p.1 ∧ q.2 = p.2 + 1) ∨ (b = 119 ∧ p.1 = q.1 + 1 ∧ q.2 = p.2) ∨ (b = 115 ∧ q.1 = p.1 ∧ p.2 = q.2 + 1)
theorem let_step {p q : Nat × Nat} {d : Nat} (h : CvStep p q d) : LetStep (cvC d) p q := by
  unfold CvStep at h
  rcases h with ⟨rfl, h⟩ | ⟨rfl, h⟩ | ⟨rfl, h⟩ | ⟨rfl, h⟩
  · exact .inl ⟨rfl, h⟩
  · exact .inr (.inl ⟨rfl, h⟩)
  · exact .inr (.inr (.inl ⟨rfl, h⟩))
  · exact .inr (.inr (.inr ⟨rfl, h⟩))

theorem curve_ends : ∀ k : Nat, k < 6 → hil k 0 = (0, 0) ∧ hil k (4 ^ k - 1) = (2 ^ k - 1, 0) := by decide +kernel

theorem curve_some {k : Nat} (hk : k < 6) : curveS (k : Int) = strOf (cvW k (4 ^ k - 1)) := by
  unfold curveS
  rw [if_pos]
  · rfl
  · unfold hvOk
    simp
    omega
theorem curve_size {k : Nat} (hk : k < 6) : (curveS (k : Int)).size = 4 ^ k - 1 := by rw [curve_some hk, strOf_size, cvW_length]
theorem curve_step {k : Nat} (hk : k < 6) (j : Nat) (h : j < (curveS (k : Int)).size) : LetStep (curveS (k : Int))[j] (hil k j) (hil k (j + 1)) := by
  have hs := curve_size hk
  have e := cvW_get k (4 ^ k - 1) j (by omega)
  have g : (curveS (k : Int))[j] = cvC (cvD k j) := by
    have e2 : (curveS (k : Int)).data.toList = cvW k (4 ^ k - 1) := by rw [curve_some hk]; rfl
    rw [← e2] at e
    have : (curveS (k : Int)).data[j]? = some (cvC (cvD k j)) := by rw [← Array.getElem?_toList]; exact e
    have h2 : j < (curveS (k : Int)).data.size := h
    rw [Array.getElem?_eq_getElem h2] at this
    exact Option.some.inj this
  rw [g]
  exact let_step (cv_step k hk j (by omega) (by omega))

/-- A text with a step to the south behind it, and then so many to the west. -/
def wn (S : ByteArray) : Nat → ByteArray
  | 0 => S ++ ⟨#[115]⟩
  | j + 1 => wn S j ++ ⟨#[119]⟩
theorem wn_size (S : ByteArray) : ∀ j : Nat, (wn S j).size = S.size + 1 + j
  | 0 => by rw [wn, ByteArray.size_append]; rfl
  | j + 1 => by rw [wn, ByteArray.size_append, wn_size S j]; rfl
def ApartB (l : List UInt8) : Bool := (List.range (l.length + 1)).all fun k => (List.range k).all fun j => j == 0 || !(PX l k == PX l j && PY l k == PY l j)
theorem apartB {l : List UInt8} (h : ApartB l = true) : Apart l := by
  intro j k h1 h2 h3 h4
  unfold ApartB at h
  simp only [List.all_eq_true, List.mem_range] at h
  have := h k (by omega) j h2
  simp [h4.1, h4.2] at this
  omega
theorem curve_closed : ∀ k : Nat, k < 3 → 1 ≤ k → clL ((wn (curveS (k : Int)) (2 ^ k - 1)) ++ (⟨#[110]⟩ : ByteArray)).data.toList = true ∧ ApartB ((wn (curveS (k : Int)) (2 ^ k - 1)) ++ (⟨#[110]⟩ : ByteArray)).data.toList = true := by decide +kernel
end Go.Proofs.TW
