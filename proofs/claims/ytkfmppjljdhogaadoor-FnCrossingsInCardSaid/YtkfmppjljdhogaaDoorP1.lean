/- Walks as lists of letters: the places after each step, and what is reckoned of them; a closed walk is a loop. Plain Lean. -/
import Derived.Test.YtkfmppjljdhogaaDoorM5
namespace Go.Proofs.TW

def dxB (b : UInt8) : Int := if b = 101 then 1 else if b = 119 then -1 else 0
def dyB (b : UInt8) : Int := if b = 110 then 1 else if b = 115 then -1 else 0
def lkB (b : UInt8) : Int := if b = 101 then 0 else if b = 110 then 1 else if b = 119 then 2 else if b = 115 then 3 else -1
def isStep (b : UInt8) : Bool := b == 101 || b == 110 || b == 119 || b == 115

/-- The letter at a place; 0 behind the end. -/
def at0 (l : List UInt8) (k : Nat) : UInt8 := l.getD k 0
/-- How far to the east and to the north after k steps. -/
def PX (l : List UInt8) (k : Nat) : Int := sumTo (fun j => dxB (at0 l j)) k
def PY (l : List UInt8) (k : Nat) : Int := sumTo (fun j => dyB (at0 l j)) k
theorem PX_zero (l : List UInt8) : PX l 0 = 0 := rfl
theorem PY_zero (l : List UInt8) : PY l 0 = 0 := rfl
theorem PX_succ (l : List UInt8) (k : Nat) : PX l (k + 1) = PX l k + dxB (at0 l k) := rfl
theorem PY_succ (l : List UInt8) (k : Nat) : PY l (k + 1) = PY l k + dyB (at0 l k) := rfl

theorem dxB_le (b : UInt8) : -1 ≤ dxB b ∧ dxB b ≤ 1 := by unfold dxB; (repeat' split) <;> omega
theorem dyB_le (b : UInt8) : -1 ≤ dyB b ∧ dyB b ≤ 1 := by unfold dyB; (repeat' split) <;> omega
theorem lkB_le (b : UInt8) : -1 ≤ lkB b ∧ lkB b ≤ 3 := by unfold lkB; (repeat' split) <;> omega
theorem PX_le (l : List UInt8) : ∀ k : Nat, -(k : Int) ≤ PX l k ∧ PX l k ≤ k
  | 0 => by simp [PX_zero]
  | k + 1 => by have := PX_le l k; have := dxB_le (at0 l k); rw [PX_succ]; omega
theorem PY_le (l : List UInt8) : ∀ k : Nat, -(k : Int) ≤ PY l k ∧ PY l k ≤ k
  | 0 => by simp [PY_zero]
  | k + 1 => by have := PY_le l k; have := dyB_le (at0 l k); rw [PY_succ]; omega

theorem isStep_cases {b : UInt8} (h : isStep b = true) : b = 101 ∨ b = 110 ∨ b = 119 ∨ b = 115 := by
  unfold isStep at h; simp only [Bool.or_eq_true, beq_iff_eq] at h
  rcases h with ((h | h) | h) | h
  · exact .inl h
  · exact .inr (.inl h)
  · exact .inr (.inr (.inl h))
  · exact .inr (.inr (.inr h))
theorem step_e : dxB 101 = 1 ∧ dyB 101 = 0 ∧ lkB 101 = 0 := by decide
theorem step_n : dxB 110 = 0 ∧ dyB 110 = 1 ∧ lkB 110 = 1 := by decide
theorem step_w : dxB 119 = -1 ∧ dyB 119 = 0 ∧ lkB 119 = 2 := by decide
theorem step_s : dxB 115 = 0 ∧ dyB 115 = -1 ∧ lkB 115 = 3 := by decide
theorem isStep_move {b : UInt8} (h : isStep b = true) : (dxB b = 1 ∧ dyB b = 0 ∧ lkB b = 0) ∨ (dxB b = 0 ∧ dyB b = 1 ∧ lkB b = 1) ∨ (dxB b = -1 ∧ dyB b = 0 ∧ lkB b = 2) ∨ (dxB b = 0 ∧ dyB b = -1 ∧ lkB b = 3) := by
  rcases isStep_cases h with rfl | rfl | rfl | rfl
  · exact .inl step_e
  · exact .inr (.inl step_n)
  · exact .inr (.inr (.inl step_w))
  · exact .inr (.inr (.inr step_s))
theorem isStep_look (b : UInt8) : isStep b = decide (0 ≤ lkB b) := by
  unfold isStep lkB
  by_cases h1 : b = 101
  · subst h1; rfl
  · by_cases h2 : b = 110
    · subst h2; rfl
    · by_cases h3 : b = 119
      · subst h3; rfl
      · by_cases h4 : b = 115
        · subst h4; rfl
        · simp [h1, h2, h3, h4]

/-- A walk; a closed one. -/
def wkL (l : List UInt8) : Bool := decide (l.length ≤ 40) && l.all isStep
def clL (l : List UInt8) : Bool := wkL l && decide (1 ≤ l.length) && (decide (PX l l.length = 0) && decide (PY l l.length = 0))
/-- It stands nowhere twice. -/
def Apart (l : List UInt8) : Prop := ∀ j k, 1 ≤ j → j < k → k ≤ l.length → ¬ (PX l k = PX l j ∧ PY l k = PY l j)
open Classical in
noncomputable def smL (l : List UInt8) : Bool := clL l && decide (Apart l)

theorem wkL_len {l : List UInt8} (h : wkL l = true) : l.length ≤ 40 := by unfold wkL at h; simp at h; exact h.1
theorem wkL_step {l : List UInt8} (h : wkL l = true) {k : Nat} (hk : k < l.length) : isStep (at0 l k) = true := by
  unfold wkL at h
  simp only [Bool.and_eq_true, List.all_eq_true] at h
  unfold at0
  rw [List.getD_eq_getElem?_getD, List.getElem?_eq_getElem hk]
  exact h.2 _ (List.getElem_mem hk)
theorem clL_wk {l : List UInt8} (h : clL l = true) : wkL l = true := by unfold clL at h; simp only [Bool.and_eq_true] at h; exact h.1.1
theorem clL_pos {l : List UInt8} (h : clL l = true) : 1 ≤ l.length := by unfold clL at h; simp only [Bool.and_eq_true, decide_eq_true_eq] at h; exact h.1.2
theorem clL_end {l : List UInt8} (h : clL l = true) : PX l l.length = 0 ∧ PY l l.length = 0 := by unfold clL at h; simp only [Bool.and_eq_true, decide_eq_true_eq] at h; exact h.2
theorem clL_mk {l : List UInt8} (h : wkL l = true) (h1 : 1 ≤ l.length) (h2 : PX l l.length = 0) (h3 : PY l l.length = 0) : clL l = true := by
  unfold clL; rw [h]; simp [h1, h2, h3]
theorem smL_cl {l : List UInt8} (h : smL l = true) : clL l = true := by unfold smL at h; simp only [Bool.and_eq_true] at h; exact h.1
theorem smL_apart {l : List UInt8} (h : smL l = true) : Apart l := by unfold smL at h; simp only [Bool.and_eq_true, decide_eq_true_eq] at h; exact h.2
theorem smL_mk {l : List UInt8} (h : clL l = true) (ha : Apart l) : smL l = true := by unfold smL; rw [h]; simp [ha]
theorem smL_no {l : List UInt8} (h : ¬ Apart l) : smL l = false := by unfold smL; simp [h]
theorem smL_open {l : List UInt8} (h : clL l = false) : smL l = false := by unfold smL; rw [h]; rfl

/-- The places, round and round. -/
def RX (l : List UInt8) (k : Nat) : Int := PX l (k % l.length)
def RY (l : List UInt8) (k : Nat) : Int := PY l (k % l.length)
theorem RX_of {l : List UInt8} {k : Nat} (h : k < l.length) : RX l k = PX l k := by unfold RX; rw [Nat.mod_eq_of_lt h]
theorem RY_of {l : List UInt8} {k : Nat} (h : k < l.length) : RY l k = PY l k := by unfold RY; rw [Nat.mod_eq_of_lt h]
theorem mod_succ {n : Nat} (hn : 0 < n) (i : Nat) : (i % n + 1 < n ∧ (i + 1) % n = i % n + 1) ∨ (i % n + 1 = n ∧ (i + 1) % n = 0) := by
  have h1 := Nat.mod_lt i hn
  have h2 : (i + 1) % n = (i % n + 1) % n := by rw [Nat.add_mod]; simp
  by_cases h : i % n + 1 < n
  · left; exact ⟨h, by rw [h2, Nat.mod_eq_of_lt h]⟩
  · right
    have e : i % n + 1 = n := by omega
    exact ⟨e, by rw [h2, e, Nat.mod_self]⟩
theorem R_succ {l : List UInt8} (h : clL l = true) (i : Nat) : RX l (i + 1) = RX l i + dxB (at0 l (i % l.length)) ∧ RY l (i + 1) = RY l i + dyB (at0 l (i % l.length)) := by
  obtain ⟨e1, e2⟩ := clL_end h
  unfold RX RY
  rcases mod_succ (clL_pos h) i with ⟨_, g⟩ | ⟨g1, g⟩
  · rw [g]; exact ⟨rfl, rfl⟩
  · rw [g, ← PX_succ, ← PY_succ, g1, e1, e2]; exact ⟨rfl, rfl⟩
theorem R_end {l : List UInt8} (h : clL l = true) {k : Nat} (hk : k ≤ l.length) : RX l k = PX l k ∧ RY l k = PY l k := by
  obtain ⟨e1, e2⟩ := clL_end h
  by_cases e : k = l.length
  · subst e; rw [e1, e2]; unfold RX RY; rw [Nat.mod_self]; exact ⟨rfl, rfl⟩
  · exact ⟨RX_of (by omega), RY_of (by omega)⟩

theorem loop_of {l : List UInt8} (h : clL l = true) : Loop l.length (RX l) (RY l) where
  pos := clL_pos h
  step i := by
    obtain ⟨e1, e2⟩ := R_succ h i
    have m := isStep_move (wkL_step (clL_wk h) (Nat.mod_lt i (clL_pos h)))
    omega
  per i := by unfold RX RY; rw [Nat.add_mod_right]; exact ⟨rfl, rfl⟩

theorem simple_of {l : List UInt8} (h : smL l = true) : Simple l.length (RX l) (RY l) :=
  { loop_of (smL_cl h) with
    inj := by
      have hc := smL_cl h
      obtain ⟨z1, z2⟩ := clL_end hc
      have ha := smL_apart h
      have lt : ∀ i j, i < j → j < l.length → ¬ (PX l j = PX l i ∧ PY l j = PY l i) := by
        intro i j hij hj
        by_cases hi : i = 0
        · subst hi
          intro ⟨g1, g2⟩
          exact ha j l.length (by omega) hj (Nat.le_refl _) ⟨by rw [z1, g1]; rfl, by rw [z2, g2]; rfl⟩
        · exact ha i j (by omega) hij (by omega)
      intro i j hi hj e1 e2
      rw [RX_of hi, RX_of hj] at e1
      rw [RY_of hi, RY_of hj] at e2
      rcases Nat.lt_trichotomy i j with g | g | g
      · exact absurd ⟨e1.symm, e2.symm⟩ (lt i j g hj)
      · exact g
      · exact absurd ⟨e1, e2⟩ (lt j i g hi) }

/-- The winding number of a square, as the walk's letters tell it. -/
def wdL (l : List UInt8) (a b : Int) : Int := sumTo (fun k => if min (PY l k) (PY l (k + 1)) = b ∧ a < PX l k then dyB (at0 l k) else 0) l.length
/-- How many upright steps there are beyond the square. -/
def cnL (l : List UInt8) (a b : Int) : Int := sumTo (fun k => if min (PY l k) (PY l (k + 1)) = b ∧ a < PX l k ∧ dyB (at0 l k) ≠ 0 then 1 else 0) l.length
def arL (l : List UInt8) : Int := sumTo (fun k => PX l k * dyB (at0 l k)) l.length
def tnL (l : List UInt8) : Int := sumTo (fun k => turnOf (lkB (at0 l k)) (lkB (at0 l ((k + 1) % l.length)))) l.length

theorem wind_eq {l : List UInt8} (h : clL l = true) (a b : Int) : wind l.length (RX l) (RY l) a b = wdL l a b := by
  refine sumTo_congr (fun k hk => ?_)
  have e0 := R_end h (k := k) (by omega)
  have e1 := R_end h (k := k + 1) (by omega)
  unfold rayE
  rw [e0.1, e0.2, e1.2, PY_succ]
  split
  · omega
  · rfl
theorem area_eq {l : List UInt8} (h : clL l = true) : areaTo l.length (RX l) (RY l) = arL l := by
  refine sumTo_congr (fun k hk => ?_)
  have e0 := R_end h (k := k) (by omega)
  have e1 := R_end h (k := k + 1) (by omega)
  show RX l k * (RY l (k + 1) - RY l k) = _
  rw [e0.1, e0.2, e1.2, PY_succ]
  congr 1
  omega
theorem look_of {b : UInt8} (h : isStep b = true) : lookOf (dxB b) (dyB b) = lkB b := by
  rcases isStep_cases h with rfl | rfl | rfl | rfl <;> rfl
theorem turn_eq {l : List UInt8} (h : clL l = true) : sumTo (turnAt (RX l) (RY l)) l.length = tnL l := by
  refine sumTo_congr (fun k hk => ?_)
  have e0 := R_succ h k
  have e1 := R_succ h (k + 1)
  have s0 := look_of (wkL_step (clL_wk h) hk)
  have s1 := look_of (wkL_step (clL_wk h) (Nat.mod_lt (k + 1) (clL_pos h)))
  rw [Nat.mod_eq_of_lt hk] at e0
  unfold turnAt
  rw [show RX l (k + 1) - RX l k = dxB (at0 l k) from by omega, show RY l (k + 1) - RY l k = dyB (at0 l k) from by omega]
  rw [show RX l (k + 2) - RX l (k + 1) = dxB (at0 l ((k + 1) % l.length)) from by have := e1.1; rw [show k + 1 + 1 = k + 2 from rfl] at this; omega,
    show RY l (k + 2) - RY l (k + 1) = dyB (at0 l ((k + 1) % l.length)) from by have := e1.2; rw [show k + 1 + 1 = k + 2 from rfl] at this; omega, s0, s1]

theorem half_of {l : List UInt8} (h : clL l = true) (k : Nat) : -20 ≤ RX l k ∧ RX l k ≤ 20 ∧ -20 ≤ RY l k ∧ RY l k ≤ 20 := by
  have a := (loop_of h).half k
  have b := wkL_len (clL_wk h)
  have e : RX l 0 = 0 := by unfold RX; rw [Nat.zero_mod]; rfl
  have f : RY l 0 = 0 := by unfold RY; rw [Nat.zero_mod]; rfl
  omega
theorem half_P {l : List UInt8} (h : clL l = true) {k : Nat} (hk : k ≤ l.length) : -20 ≤ PX l k ∧ PX l k ≤ 20 ∧ -20 ≤ PY l k ∧ PY l k ≤ 20 := by
  have a := half_of h k
  have b := R_end h hk
  omega

/-- Outside of the box nothing is gone round. -/
theorem wd_box {l : List UInt8} (h : clL l = true) (a b : Int) (ho : ¬ (-20 ≤ a ∧ a < 20 ∧ -20 ≤ b ∧ b < 20)) : wdL l a b = 0 := by
  rw [← wind_eq h]
  by_cases h1 : a < -20
  · exact wind_far_west (loop_of h) a b (fun k => by have := half_of h k; omega)
  · by_cases h2 : 20 ≤ a
    · exact wind_far_east a b (fun k => by have := half_of h k; omega)
    · by_cases h3 : b < -20
      · exact wind_far_south a b (fun k => by have := half_of h k; omega)
      · exact wind_far_north a b (fun k => by have := half_of h k; omega)

/-- Odd or even alike. -/
theorem cn_wd (l : List UInt8) (a b : Int) : ∀ n : Nat, (sumTo (fun k => if min (PY l k) (PY l (k + 1)) = b ∧ a < PX l k ∧ dyB (at0 l k) ≠ 0 then 1 else 0) n - sumTo (fun k => if min (PY l k) (PY l (k + 1)) = b ∧ a < PX l k then dyB (at0 l k) else 0) n) % 2 = 0 ∧
    0 ≤ sumTo (fun k => if min (PY l k) (PY l (k + 1)) = b ∧ a < PX l k ∧ dyB (at0 l k) ≠ 0 then 1 else 0) n
  | 0 => by simp [sumTo]
  | n + 1 => by
    have ih := cn_wd l a b n
    have d := dyB_le (at0 l n)
    simp only [sumTo_succ]
    by_cases g : min (PY l n) (PY l (n + 1)) = b ∧ a < PX l n
    · by_cases g2 : dyB (at0 l n) = 0
      · rw [if_neg (fun c => c.2.2 g2), if_pos g, g2]; omega
      · rw [if_pos ⟨g.1, g.2, g2⟩, if_pos g]; omega
    · rw [if_neg (fun c => g ⟨c.1, c.2.1⟩), if_neg g]; omega
theorem cnL_mod (l : List UInt8) (a b : Int) : cnL l a b % 2 = wdL l a b % 2 ∧ 0 ≤ cnL l a b := by
  have := cn_wd l a b l.length
  unfold cnL wdL
  omega
end Go.Proofs.TW
