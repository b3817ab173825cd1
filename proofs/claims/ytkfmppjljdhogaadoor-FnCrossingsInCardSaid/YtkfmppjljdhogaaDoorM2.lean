/- Closed walks on the lattice: winding numbers by rays, edges, and what a vertex of a simple walk looks like. Plain Lean. -/
import Derived.Test.YtkfmppjljdhogaaDoorM1
namespace Go.Proofs.TW

/-- A closed walk of n steps, told for all numbers of steps, round and round. -/
structure Loop (n : Nat) (x y : Nat → Int) : Prop where
  pos : 0 < n
  step : ∀ i, (x (i + 1) = x i + 1 ∧ y (i + 1) = y i) ∨ (x (i + 1) = x i ∧ y (i + 1) = y i + 1) ∨ (x (i + 1) = x i - 1 ∧ y (i + 1) = y i) ∨ (x (i + 1) = x i ∧ y (i + 1) = y i - 1)
  per : ∀ i, x (i + n) = x i ∧ y (i + n) = y i

/-- It stands nowhere twice in one round. -/
structure Simple (n : Nat) (x y : Nat → Int) : Prop extends Loop n x y where
  inj : ∀ i j, i < n → j < n → x i = x j → y i = y j → i = j

theorem Loop.per_mul {n : Nat} {x y : Nat → Int} (h : Loop n x y) : ∀ m i, x (i + n * m) = x i ∧ y (i + n * m) = y i
  | 0, i => by simp
  | m + 1, i => by
    have h1 := h.per_mul m (i + n)
    have h2 := h.per i
    rw [show i + n * (m + 1) = i + n + n * m from by rw [Nat.mul_add]; omega]
    exact ⟨h1.1.trans h2.1, h1.2.trans h2.2⟩

theorem Loop.mod {n : Nat} {x y : Nat → Int} (h : Loop n x y) (i : Nat) : x (i % n) = x i ∧ y (i % n) = y i := by
  have h1 := h.per_mul (i / n) (i % n)
  rw [Nat.mod_add_div] at h1
  exact ⟨h1.1.symm, h1.2.symm⟩

/-- Begun anywhere it is simple. -/
theorem Simple.inj_from {n : Nat} {x y : Nat → Int} (h : Simple n x y) (m i j : Nat) (hi : i < n) (hj : j < n) (ex : x (m + i) = x (m + j)) (ey : y (m + i) = y (m + j)) : i = j := by
  have a := h.toLoop.mod (m + i)
  have b := h.toLoop.mod (m + j)
  have e := h.inj ((m + i) % n) ((m + j) % n) (Nat.mod_lt _ h.pos) (Nat.mod_lt _ h.pos) (by rw [a.1, b.1, ex]) (by rw [a.2, b.2, ey])
  have hd : (m + i) % n = (m + j) % n := e
  rcases Nat.lt_trichotomy i j with hlt | heq | hgt
  · exfalso
    have : (m + j - (m + i)) % n = 0 := by
      have := Nat.sub_mod_eq_zero_of_mod_eq (m := m + j) (n := m + i) (k := n) hd.symm
      exact this
    rw [show m + j - (m + i) = j - i from by omega, Nat.mod_eq_of_lt (by omega)] at this
    omega
  · exact heq
  · exfalso
    have : (m + i - (m + j)) % n = 0 := Nat.sub_mod_eq_zero_of_mod_eq (m := m + i) (n := m + j) (k := n) hd
    rw [show m + i - (m + j) = i - j from by omega, Nat.mod_eq_of_lt (by omega)] at this
    omega

/-- The ray to the east from the square (a, b): what step k adds. -/
def rayE (x y : Nat → Int) (a b : Int) (k : Nat) : Int := if min (y k) (y (k + 1)) = b ∧ a < x k then y (k + 1) - y k else 0
/-- The rays to the north, the west and the south. -/
def rayN (x y : Nat → Int) (a b : Int) (k : Nat) : Int := if min (x k) (x (k + 1)) = a ∧ b < y k then x k - x (k + 1) else 0
def rayW (x y : Nat → Int) (a b : Int) (k : Nat) : Int := if min (y k) (y (k + 1)) = b ∧ x k ≤ a then y k - y (k + 1) else 0
def rayS (x y : Nat → Int) (a b : Int) (k : Nat) : Int := if min (x k) (x (k + 1)) = a ∧ y k ≤ b then x (k + 1) - x k else 0

/-- How often the walk goes round the square (a, b). -/
def wind (n : Nat) (x y : Nat → Int) (a b : Int) : Int := sumTo (rayE x y a b) n

/-- The edge from (a, b) to the north, and to the east: how often it is walked, there less back. -/
def edgeV (x y : Nat → Int) (a b : Int) (k : Nat) : Int := if min (y k) (y (k + 1)) = b ∧ x k = a then y (k + 1) - y k else 0
def edgeH (x y : Nat → Int) (a b : Int) (k : Nat) : Int := if min (x k) (x (k + 1)) = a ∧ y k = b then x (k + 1) - x k else 0

theorem Loop.sum_tele {n : Nat} {x y : Nat → Int} (h : Loop n x y) (q : Int → Int → Int) : sumTo (fun k => q (x (k + 1)) (y (k + 1)) - q (x k) (y k)) n = 0 := by
  rw [sumTo_tele (fun k => q (x k) (y k)) n]
  have := h.per 0
  rw [Nat.zero_add] at this
  rw [this.1, this.2]; omega

theorem wind_north {n : Nat} {x y : Nat → Int} (h : Loop n x y) (a b : Int) : wind n x y a b = sumTo (rayN x y a b) n := by
  have t := h.sum_tele (fun p q => if a < p ∧ b < q then 1 else 0)
  have e : sumTo (fun k => rayE x y a b k - rayN x y a b k) n = sumTo (fun k => (if a < x (k + 1) ∧ b < y (k + 1) then (1 : Int) else 0) - (if a < x k ∧ b < y k then 1 else 0)) n := by
    refine sumTo_congr (fun k _ => ?_)
    have := h.step k
    unfold rayE rayN
    rcases this with ⟨h1, h2⟩ | ⟨h1, h2⟩ | ⟨h1, h2⟩ | ⟨h1, h2⟩ <;> rw [h1, h2] <;> (repeat' split) <;> omega
  rw [sumTo_sub] at e
  unfold wind
  omega

theorem wind_west {n : Nat} {x y : Nat → Int} (h : Loop n x y) (a b : Int) : wind n x y a b = sumTo (rayW x y a b) n := by
  have t := h.sum_tele (fun _ q => if b < q then 1 else 0)
  have e : sumTo (fun k => rayE x y a b k - rayW x y a b k) n = sumTo (fun k => (if b < y (k + 1) then (1 : Int) else 0) - (if b < y k then 1 else 0)) n := by
    refine sumTo_congr (fun k _ => ?_)
    have := h.step k
    unfold rayE rayW
    rcases this with ⟨h1, h2⟩ | ⟨h1, h2⟩ | ⟨h1, h2⟩ | ⟨h1, h2⟩ <;> rw [h2] <;> (repeat' split) <;> omega
  rw [sumTo_sub] at e
  unfold wind
  omega

theorem wind_south {n : Nat} {x y : Nat → Int} (h : Loop n x y) (a b : Int) : wind n x y a b = sumTo (rayS x y a b) n := by
  rw [wind_north h]
  have t := h.sum_tele (fun p _ => if a < p then 1 else 0)
  have e : sumTo (fun k => rayS x y a b k - rayN x y a b k) n = sumTo (fun k => (if a < x (k + 1) then (1 : Int) else 0) - (if a < x k then 1 else 0)) n := by
    refine sumTo_congr (fun k _ => ?_)
    have := h.step k
    unfold rayS rayN
    rcases this with ⟨h1, h2⟩ | ⟨h1, h2⟩ | ⟨h1, h2⟩ | ⟨h1, h2⟩ <;> rw [h1] <;> (repeat' split) <;> omega
  rw [sumTo_sub] at e
  omega

/-- Four rays, none of which shares a step with another one. -/
theorem wind_four {n : Nat} {x y : Nat → Int} (h : Loop n x y) (a b : Int) : 4 * wind n x y a b ≤ n ∧ -(n : Int) ≤ 4 * wind n x y a b := by
  have e : 4 * wind n x y a b = sumTo (fun k => rayE x y a b k + rayN x y a b k + (rayW x y a b k + rayS x y a b k)) n := by
    rw [sumTo_add, sumTo_add (rayE x y a b), sumTo_add (rayW x y a b), ← wind_north h, ← wind_west h, ← wind_south h]
    unfold wind; omega
  have hb : ∀ k, k < n → rayE x y a b k + rayN x y a b k + (rayW x y a b k + rayS x y a b k) ≤ 1 ∧ -1 ≤ rayE x y a b k + rayN x y a b k + (rayW x y a b k + rayS x y a b k) := by
    intro k _
    have := h.step k
    unfold rayE rayN rayW rayS
    rcases this with ⟨h1, h2⟩ | ⟨h1, h2⟩ | ⟨h1, h2⟩ | ⟨h1, h2⟩ <;> rw [h1, h2] <;> (repeat' split) <;> omega
  have u := sumTo_le (g := fun _ => 1) (fun k hk => (hb k hk).1)
  have l := sumTo_le (f := fun _ => -1) (fun k hk => (hb k hk).2)
  rw [sumTo_const] at u l
  rw [e]; omega

theorem wind_east_diff (n : Nat) (x y : Nat → Int) (a b : Int) : wind n x y a b - wind n x y (a + 1) b = sumTo (edgeV x y (a + 1) b) n := by
  unfold wind
  rw [← sumTo_sub]
  refine sumTo_congr (fun k _ => ?_)
  unfold rayE edgeV
  (repeat' split) <;> omega

theorem wind_north_diff {n : Nat} {x y : Nat → Int} (h : Loop n x y) (a b : Int) : wind n x y a (b + 1) - wind n x y a b = sumTo (edgeH x y a (b + 1)) n := by
  rw [wind_north h, wind_north h, ← sumTo_sub]
  refine sumTo_congr (fun k _ => ?_)
  unfold rayN edgeH
  (repeat' split) <;> omega

theorem edgeV_per {n : Nat} {x y : Nat → Int} (h : Loop n x y) (a b : Int) (k : Nat) : edgeV x y a b (k + n) = edgeV x y a b k := by
  have h0 := h.per k
  have h1 := h.per (k + 1)
  rw [show k + 1 + n = k + n + 1 from by omega] at h1
  unfold edgeV
  rw [h0.1, h0.2, h1.2]

theorem edgeH_per {n : Nat} {x y : Nat → Int} (h : Loop n x y) (a b : Int) (k : Nat) : edgeH x y a b (k + n) = edgeH x y a b k := by
  have h0 := h.per k
  have h1 := h.per (k + 1)
  rw [show k + 1 + n = k + n + 1 from by omega] at h1
  unfold edgeH
  rw [h0.1, h0.2, h1.1]

theorem rayE_per {n : Nat} {x y : Nat → Int} (h : Loop n x y) (a b : Int) (k : Nat) : rayE x y a b (k + n) = rayE x y a b k := by
  have h0 := h.per k
  have h1 := h.per (k + 1)
  rw [show k + 1 + n = k + n + 1 from by omega] at h1
  unfold rayE
  rw [h0.1, h0.2, h1.2]

/-- The edges at the vertex behind step m of a simple walk: none but step m and step m + 1 walks them. -/
theorem Simple.edgeV_at {n : Nat} {x y : Nat → Int} (h : Simple n x y) (hn : 2 < n) (m : Nat) (b : Int) (hb : b = y (m + 1) ∨ b = y (m + 1) - 1) :
    sumTo (edgeV x y (x (m + 1)) b) n = edgeV x y (x (m + 1)) b m + edgeV x y (x (m + 1)) b (m + 1) := by
  rw [← sumTo_shift (edgeV_per h.toLoop (x (m + 1)) b) m, sumTo_two (by omega)]
  · rfl
  · intro j hj hjn
    unfold edgeV
    split
    · rename_i hh
      have st := h.step (m + j)
      have n1 : ¬ (x (m + j) = x (m + 1) ∧ y (m + j) = y (m + 1)) := fun ⟨e1, e2⟩ => by
        have := h.inj_from m j 1 hjn (by omega) e1 e2; omega
      have n2 : ¬ (x (m + j + 1) = x (m + 1) ∧ y (m + j + 1) = y (m + 1)) := fun ⟨e1, e2⟩ => by
        have := h.inj_from (m + 1) j 0 hjn (by omega) (by rw [show m + 1 + j = m + j + 1 from by omega]; exact e1) (by rw [show m + 1 + j = m + j + 1 from by omega]; exact e2)
        omega
      obtain ⟨h1, h2⟩ := hh
      rcases st with ⟨s1, s2⟩ | ⟨s1, s2⟩ | ⟨s1, s2⟩ | ⟨s1, s2⟩ <;> omega
    · rfl

theorem Simple.edgeH_at {n : Nat} {x y : Nat → Int} (h : Simple n x y) (hn : 2 < n) (m : Nat) (a : Int) (ha : a = x (m + 1) ∨ a = x (m + 1) - 1) :
    sumTo (edgeH x y a (y (m + 1))) n = edgeH x y a (y (m + 1)) m + edgeH x y a (y (m + 1)) (m + 1) := by
  rw [← sumTo_shift (edgeH_per h.toLoop a (y (m + 1))) m, sumTo_two (by omega)]
  · rfl
  · intro j hj hjn
    unfold edgeH
    split
    · rename_i hh
      have st := h.step (m + j)
      have n1 : ¬ (x (m + j) = x (m + 1) ∧ y (m + j) = y (m + 1)) := fun ⟨e1, e2⟩ => by
        have := h.inj_from m j 1 hjn (by omega) e1 e2; omega
      have n2 : ¬ (x (m + j + 1) = x (m + 1) ∧ y (m + j + 1) = y (m + 1)) := fun ⟨e1, e2⟩ => by
        have := h.inj_from (m + 1) j 0 hjn (by omega) (by rw [show m + 1 + j = m + j + 1 from by omega]; exact e1) (by rw [show m + 1 + j = m + j + 1 from by omega]; exact e2)
        omega
      obtain ⟨h1, h2⟩ := hh
      rcases st with ⟨s1, s2⟩ | ⟨s1, s2⟩ | ⟨s1, s2⟩ | ⟨s1, s2⟩ <;> omega
    · rfl

/-- No step walks an edge that meets a crossing at which the walk never is. -/
theorem Loop.edge_off {n : Nat} {x y : Nat → Int} (h : Loop n x y) (p q : Int) (off : ∀ k, ¬ (x k = p ∧ y k = q)) :
    sumTo (edgeV x y p q) n = 0 ∧ sumTo (edgeV x y p (q - 1)) n = 0 ∧ sumTo (edgeH x y p q) n = 0 ∧ sumTo (edgeH x y (p - 1) q) n = 0 := by
  refine ⟨sumTo_zero fun k _ => ?_, sumTo_zero fun k _ => ?_, sumTo_zero fun k _ => ?_, sumTo_zero fun k _ => ?_⟩ <;>
    (have s := h.step k; have o := off k; have o' := off (k + 1); first | unfold edgeV | unfold edgeH) <;>
    (rcases s with ⟨s1, s2⟩ | ⟨s1, s2⟩ | ⟨s1, s2⟩ | ⟨s1, s2⟩ <;> rw [s1, s2] at o' <;> (first | rw [s2] | rw [s1]) <;> split <;> omega)

/-- Left and right of the step from (p, q) to (r, s): the left square is gone round c times, the right one once less. -/
def Side (w : Int → Int → Int) (p q r s c : Int) : Prop :=
  (r = p + 1 → w p q = c ∧ w p (q - 1) = c - 1) ∧ (s = q + 1 → w (p - 1) q = c ∧ w p q = c - 1) ∧
  (r = p - 1 → w r (q - 1) = c ∧ w r q = c - 1) ∧ (s = q - 1 → w p s = c ∧ w (p - 1) s = c - 1)

/-- The four squares at a vertex of a simple walk. -/
theorem Simple.vertex {n : Nat} {x y : Nat → Int} (h : Simple n x y) (hn : 2 < n) (m : Nat) :
    wind n x y (x (m + 1) - 1) (y (m + 1)) - wind n x y (x (m + 1)) (y (m + 1)) = edgeV x y (x (m + 1)) (y (m + 1)) m + edgeV x y (x (m + 1)) (y (m + 1)) (m + 1) ∧
    wind n x y (x (m + 1) - 1) (y (m + 1) - 1) - wind n x y (x (m + 1)) (y (m + 1) - 1) = edgeV x y (x (m + 1)) (y (m + 1) - 1) m + edgeV x y (x (m + 1)) (y (m + 1) - 1) (m + 1) ∧
    wind n x y (x (m + 1)) (y (m + 1)) - wind n x y (x (m + 1)) (y (m + 1) - 1) = edgeH x y (x (m + 1)) (y (m + 1)) m + edgeH x y (x (m + 1)) (y (m + 1)) (m + 1) ∧
    wind n x y (x (m + 1) - 1) (y (m + 1)) - wind n x y (x (m + 1) - 1) (y (m + 1) - 1) = edgeH x y (x (m + 1) - 1) (y (m + 1)) m + edgeH x y (x (m + 1) - 1) (y (m + 1)) (m + 1) := by
  have e1 := wind_east_diff n x y (x (m + 1) - 1) (y (m + 1))
  have e2 := wind_east_diff n x y (x (m + 1) - 1) (y (m + 1) - 1)
  have e3 := wind_north_diff h.toLoop (x (m + 1)) (y (m + 1) - 1)
  have e4 := wind_north_diff h.toLoop (x (m + 1) - 1) (y (m + 1) - 1)
  rw [Int.sub_add_cancel] at e1 e2 e3 e4
  rw [h.edgeV_at hn m _ (Or.inl rfl)] at e1
  rw [h.edgeV_at hn m _ (Or.inr rfl)] at e2
  rw [h.edgeH_at hn m _ (Or.inl rfl)] at e3
  rw [h.edgeH_at hn m _ (Or.inr rfl)] at e4
  exact ⟨e1, e2, e3, e4⟩

/-- It never turns back. -/
theorem Simple.no_back {n : Nat} {x y : Nat → Int} (h : Simple n x y) (hn : 2 < n) (m : Nat) : ¬ (x (m + 2) = x m ∧ y (m + 2) = y m) := fun ⟨e1, e2⟩ => by
  have := h.inj_from m 2 0 hn (by omega) e1 e2
  omega

end Go.Proofs.TW
