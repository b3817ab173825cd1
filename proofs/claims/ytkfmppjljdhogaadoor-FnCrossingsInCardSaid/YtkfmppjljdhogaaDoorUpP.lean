/- The upright steps of a walk as a list, and sums over it. -/
import Derived.Test.YtkfmppjljdhogaaDoorP3
namespace Go.Proofs.TW

/-- An upright step: how far to the east, on the height of which squares, up or down. -/
structure Upr where
  x : Int
  y : Int
  up : Int
/-- The upright steps among the first k. -/
def upL (l : List UInt8) : Nat → List Upr
  | 0 => []
  | k + 1 => if dyB (at0 l k) = 0 then upL l k else upL l k ++ [⟨PX l k, min (PY l k) (PY l (k + 1)), dyB (at0 l k)⟩]
theorem upL_succ (l : List UInt8) (k : Nat) : upL l (k + 1) = if dyB (at0 l k) = 0 then upL l k else upL l k ++ [⟨PX l k, min (PY l k) (PY l (k + 1)), dyB (at0 l k)⟩] := rfl
theorem upL_len (l : List UInt8) : ∀ k, (upL l k).length ≤ k
  | 0 => Nat.le_refl _
  | k + 1 => by
    have := upL_len l k
    unfold upL
    split
    · omega
    · simp; omega
/-- The upright step number i. -/
def upAt (us : List Upr) (i : Nat) : Upr := us.getD i ⟨0, 0, 0⟩
theorem upAt_left (us vs : List Upr) {i : Nat} (h : i < us.length) : upAt (us ++ vs) i = upAt us i := by
  unfold upAt; rw [List.getD_eq_getElem?_getD, List.getD_eq_getElem?_getD, List.getElem?_append_left h]
theorem upAt_last (us : List Upr) (u : Upr) : upAt (us ++ [u]) us.length = u := by
  unfold upAt; rw [List.getD_eq_getElem?_getD, List.getElem?_append_right (Nat.le_refl _)]; simp
/-- A sum over upright steps is one over all steps. -/
theorem upL_sum (f : Upr → Int) (l : List UInt8) : ∀ k : Nat, sumTo (fun i => f (upAt (upL l k) i)) (upL l k).length = sumTo (fun j => if dyB (at0 l j) = 0 then 0 else f ⟨PX l j, min (PY l j) (PY l (j + 1)), dyB (at0 l j)⟩) k
  | 0 => rfl
  | k + 1 => by
    rw [sumTo_succ, ← upL_sum f l k]
    by_cases h : dyB (at0 l k) = 0
    · rw [if_pos h]
      have e : upL l (k + 1) = upL l k := by rw [upL_succ, if_pos h]
      rw [e]; omega
    · rw [if_neg h]
      have e : upL l (k + 1) = upL l k ++ [⟨PX l k, min (PY l k) (PY l (k + 1)), dyB (at0 l k)⟩] := by
        rw [upL_succ, if_neg h]
      rw [e, List.length_append, show [(⟨PX l k, min (PY l k) (PY l (k + 1)), dyB (at0 l k)⟩ : Upr)].length = 1 from rfl, sumTo_succ, upAt_last]
      congr 1
      exact sumTo_congr (fun i hi => by rw [upAt_left _ _ hi])

/-- The area so far. -/
def arU (us : List Upr) (i : Nat) : Int := sumTo (fun j => (upAt us j).x * (upAt us j).up) i
/-- The winding so far. -/
def wdU (us : List Upr) (a b : Int) (i : Nat) : Int := sumTo (fun j => if (upAt us j).y = b ∧ a < (upAt us j).x then (upAt us j).up else 0) i
/-- How many are farther to the east so far. -/
def cnU (us : List Upr) (a b : Int) (i : Nat) : Int := sumTo (fun j => if (upAt us j).y = b ∧ a < (upAt us j).x then 1 else 0) i
theorem arU_all (l : List UInt8) : arU (upL l l.length) (upL l l.length).length = arL l := by
  unfold arU arL
  rw [upL_sum (fun u => u.x * u.up)]
  refine sumTo_congr (fun k _ => ?_)
  by_cases h : dyB (at0 l k) = 0
  · rw [if_pos h, h]; simp
  · rw [if_neg h]
theorem wdU_all (l : List UInt8) (a b : Int) : wdU (upL l l.length) a b (upL l l.length).length = wdL l a b := by
  unfold wdU wdL
  rw [upL_sum (fun u => if u.y = b ∧ a < u.x then u.up else 0)]
  refine sumTo_congr (fun k _ => ?_)
  by_cases h : dyB (at0 l k) = 0
  · rw [if_pos h, h]; simp
  · rw [if_neg h]
theorem cnU_all (l : List UInt8) (a b : Int) : cnU (upL l l.length) a b (upL l l.length).length = cnL l a b := by
  unfold cnU cnL
  rw [upL_sum (fun u => if u.y = b ∧ a < u.x then 1 else 0)]
  refine sumTo_congr (fun k _ => ?_)
  by_cases h : dyB (at0 l k) = 0
  · rw [if_pos h, if_neg (by simp [h])]
  · rw [if_neg h]; simp [h]

/-- What every upright step of the list is: one of the walk's. -/
theorem upL_mem {l : List UInt8} : ∀ {k : Nat} {u : Upr}, u ∈ upL l k → ∃ j, j < k ∧ u = ⟨PX l j, min (PY l j) (PY l (j + 1)), dyB (at0 l j)⟩ ∧ dyB (at0 l j) ≠ 0
  | 0, u, h => by cases h
  | k + 1, u, h => by
    unfold upL at h
    split at h
    · obtain ⟨j, h1, h2⟩ := upL_mem h; exact ⟨j, by omega, h2⟩
    · rename_i hd
      rcases List.mem_append.1 h with h | h
      · obtain ⟨j, h1, h2⟩ := upL_mem h; exact ⟨j, by omega, h2⟩
      · obtain rfl := List.mem_singleton.1 h
        exact ⟨k, by omega, rfl, hd⟩
theorem upAt_mem {us : List Upr} {i : Nat} (h : i < us.length) : upAt us i ∈ us := by
  unfold upAt; rw [List.getD_eq_getElem?_getD, List.getElem?_eq_getElem h]; exact List.getElem_mem h
/-- Bounds of an upright step. -/
theorem upAt_le {l : List UInt8} {k i : Nat} (h : i < (upL l k).length) : -(k : Int) ≤ (upAt (upL l k) i).x ∧ (upAt (upL l k) i).x ≤ k ∧ -(k : Int) ≤ (upAt (upL l k) i).y ∧ (upAt (upL l k) i).y ≤ k ∧ -1 ≤ (upAt (upL l k) i).up ∧ (upAt (upL l k) i).up ≤ 1 := by
  obtain ⟨j, hj, e, _⟩ := upL_mem (upAt_mem h)
  rw [e]
  have a := PX_le l j
  have b := PY_le l j
  have c := PY_le l (j + 1)
  have d := dyB_le (at0 l j)
  simp only
  omega
theorem arU_le {l : List UInt8} {k : Nat} (hk : k ≤ 40) : ∀ i, i ≤ (upL l k).length → -(40 * (i : Int)) ≤ arU (upL l k) i ∧ arU (upL l k) i ≤ 40 * (i : Int)
  | 0, _ => by unfold arU; simp [sumTo]
  | i + 1, h => by
    have ih := arU_le (l := l) hk i (by omega)
    have b := upAt_le (l := l) (k := k) (i := i) (by omega)
    have e : arU (upL l k) (i + 1) = arU (upL l k) i + (upAt (upL l k) i).x * (upAt (upL l k) i).up := rfl
    have c : (upAt (upL l k) i).up = -1 ∨ (upAt (upL l k) i).up = 0 ∨ (upAt (upL l k) i).up = 1 := by omega
    rw [e]
    rcases c with c | c | c <;> rw [c] <;> omega
theorem wdU_le {l : List UInt8} {k : Nat} (a b : Int) : ∀ i, i ≤ (upL l k).length → -(i : Int) ≤ wdU (upL l k) a b i ∧ wdU (upL l k) a b i ≤ (i : Int)
  | 0, _ => by unfold wdU; simp [sumTo]
  | i + 1, h => by
    have ih := wdU_le (l := l) (k := k) a b i (by omega)
    have d := upAt_le (l := l) (k := k) (i := i) (by omega)
    have e : wdU (upL l k) a b (i + 1) = wdU (upL l k) a b i + if (upAt (upL l k) i).y = b ∧ a < (upAt (upL l k) i).x then (upAt (upL l k) i).up else 0 := rfl
    rw [e]
    split <;> omega
theorem cnU_le (us : List Upr) (a b : Int) : ∀ i : Nat, 0 ≤ cnU us a b i ∧ cnU us a b i ≤ (i : Int)
  | 0 => by unfold cnU; simp [sumTo]
  | i + 1 => by
    have ih := cnU_le us a b i
    have e : cnU us a b (i + 1) = cnU us a b i + if (upAt us i).y = b ∧ a < (upAt us i).x then 1 else 0 := rfl
    rw [e]
    split <;> omega
end Go.Proofs.TW
