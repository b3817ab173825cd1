/- Sums of integers over an initial part of the natural numbers. Plain Lean. -/
namespace Go.Proofs.TW

/-- f 0 + .. + f (n - 1). -/
def sumTo (f : Nat → Int) : Nat → Int
  | 0 => 0
  | n + 1 => sumTo f n + f n

theorem sumTo_succ (f : Nat → Int) (n : Nat) : sumTo f (n + 1) = sumTo f n + f n := rfl

theorem sumTo_congr {f g : Nat → Int} : ∀ {n : Nat}, (∀ k, k < n → f k = g k) → sumTo f n = sumTo g n
  | 0, _ => rfl
  | n + 1, h => by
    rw [sumTo_succ, sumTo_succ, sumTo_congr (fun k hk => h k (by omega)), h n (by omega)]

theorem sumTo_add (f g : Nat → Int) : ∀ n : Nat, sumTo (fun k => f k + g k) n = sumTo f n + sumTo g n
  | 0 => rfl
  | n + 1 => by simp only [sumTo_succ, sumTo_add f g n]; omega

theorem sumTo_sub (f g : Nat → Int) : ∀ n : Nat, sumTo (fun k => f k - g k) n = sumTo f n - sumTo g n
  | 0 => rfl
  | n + 1 => by simp only [sumTo_succ, sumTo_sub f g n]; omega

theorem sumTo_neg (f : Nat → Int) : ∀ n : Nat, sumTo (fun k => - f k) n = - sumTo f n
  | 0 => rfl
  | n + 1 => by simp only [sumTo_succ, sumTo_neg f n]; omega

theorem sumTo_mul (c : Int) (f : Nat → Int) : ∀ n : Nat, sumTo (fun k => c * f k) n = c * sumTo f n
  | 0 => by simp [sumTo]
  | n + 1 => by simp only [sumTo_succ, sumTo_mul c f n, Int.mul_add]

theorem sumTo_const (c : Int) : ∀ n : Nat, sumTo (fun _ => c) n = c * n
  | 0 => by simp [sumTo]
  | n + 1 => by rw [sumTo_succ, sumTo_const c n]; simp [Int.mul_add]

theorem sumTo_zero {f : Nat → Int} : ∀ {n : Nat}, (∀ k, k < n → f k = 0) → sumTo f n = 0
  | 0, _ => rfl
  | n + 1, h => by rw [sumTo_succ, sumTo_zero (fun k hk => h k (by omega)), h n (by omega)]; rfl

theorem sumTo_tele (q : Nat → Int) : ∀ n : Nat, sumTo (fun k => q (k + 1) - q k) n = q n - q 0
  | 0 => by simp [sumTo]
  | n + 1 => by rw [sumTo_succ, sumTo_tele q n]; omega

theorem sumTo_le {f g : Nat → Int} : ∀ {n : Nat}, (∀ k, k < n → f k ≤ g k) → sumTo f n ≤ sumTo g n
  | 0, _ => Int.le_refl _
  | n + 1, h => by
    rw [sumTo_succ, sumTo_succ]
    have h1 := sumTo_le (f := f) (g := g) (n := n) (fun k hk => h k (by omega))
    have h2 := h n (by omega)
    omega

theorem sumTo_single {f : Nat → Int} {k : Nat} : ∀ {n : Nat}, k < n → (∀ j, j < n → j ≠ k → f j = 0) → sumTo f n = f k
  | 0, hk, _ => by omega
  | n + 1, hk, h => by
    rw [sumTo_succ]
    by_cases e : k = n
    · subst e
      rw [sumTo_zero (fun j hj => h j (by omega) (by omega))]; omega
    · rw [sumTo_single (n := n) (by omega) (fun j hj hne => h j (by omega) hne), h n (by omega) (by omega)]; omega

theorem sumTo_two {f : Nat → Int} : ∀ {n : Nat}, 2 ≤ n → (∀ j, 2 ≤ j → j < n → f j = 0) → sumTo f n = f 0 + f 1
  | 0, hn, _ => by omega
  | 1, hn, _ => by omega
  | 2, _, _ => by simp [sumTo]
  | n + 3, _, h => by
    rw [sumTo_succ, sumTo_two (n := n + 2) (by omega) (fun j hj hj' => h j hj (by omega)), h (n + 2) (by omega) (by omega)]; omega

theorem sumTo_split (f : Nat → Int) (m : Nat) : ∀ n : Nat, sumTo f (m + n) = sumTo f m + sumTo (fun k => f (m + k)) n
  | 0 => by simp [sumTo]
  | n + 1 => by rw [← Nat.add_assoc, sumTo_succ, sumTo_split f m n, sumTo_succ]; omega

theorem sumTo_first (f : Nat → Int) (n : Nat) : sumTo f (n + 1) = f 0 + sumTo (fun k => f (k + 1)) n := by
  rw [Nat.add_comm n 1, sumTo_split f 1 n]
  have e : sumTo f 1 = f 0 := by simp [sumTo]
  rw [e]; congr 1; exact sumTo_congr (fun k _ => by rw [Nat.add_comm])

theorem sumTo_shift {f : Nat → Int} {n : Nat} (h : ∀ k, f (k + n) = f k) : ∀ m : Nat, sumTo (fun k => f (m + k)) n = sumTo f n
  | 0 => sumTo_congr (fun k _ => by rw [Nat.zero_add])
  | m + 1 => by
    have h1 := sumTo_succ (fun k => f (m + k)) n
    have h2 := sumTo_first (fun k => f (m + k)) n
    have h3 : sumTo (fun k => f (m + (k + 1))) n = sumTo (fun k => f (m + 1 + k)) n := sumTo_congr (fun k _ => by congr 1; omega)
    have h4 := sumTo_shift h m
    have h5 := h m
    simp only [Nat.add_zero] at h2
    omega

theorem sumTo_swap (f : Nat → Nat → Int) (m : Nat) : ∀ n : Nat, sumTo (fun i => sumTo (fun j => f i j) m) n = sumTo (fun j => sumTo (fun i => f i j) n) m
  | 0 => by simp only [sumTo]; exact (sumTo_zero (fun _ _ => rfl)).symm
  | n + 1 => by simp only [sumTo_succ]; rw [sumTo_swap f m n, sumTo_add]

/-- f lo + .. + f (lo + n - 1). -/
def boxTo (f : Int → Int) (lo : Int) (n : Nat) : Int := sumTo (fun k => f (lo + (k : Int))) n

theorem boxTo_congr {f g : Int → Int} {lo : Int} {n : Nat} (h : ∀ a, lo ≤ a → a < lo + n → f a = g a) : boxTo f lo n = boxTo g lo n :=
  sumTo_congr (fun k hk => h _ (by omega) (by omega))

theorem boxTo_zero {f : Int → Int} {lo : Int} {n : Nat} (h : ∀ a, lo ≤ a → a < lo + n → f a = 0) : boxTo f lo n = 0 :=
  sumTo_zero (fun k hk => h _ (by omega) (by omega))

theorem boxTo_single {f : Int → Int} {lo a : Int} {n : Nat} (h1 : lo ≤ a) (h2 : a < lo + n) (h : ∀ b, lo ≤ b → b < lo + n → b ≠ a → f b = 0) : boxTo f lo n = f a := by
  unfold boxTo
  rw [sumTo_single (k := (a - lo).toNat) (by omega) (fun j hj hne => h _ (by omega) (by omega) (by omega))]
  congr 1; omega

/-- Moved by one: what leaves the box is nought. -/
theorem boxTo_step {f : Int → Int} {lo : Int} {n : Nat} (h0 : f (lo - 1) = 0) (h1 : f (lo + n - 1) = 0) : boxTo (fun a => f (a - 1)) lo n = boxTo f lo n := by
  unfold boxTo
  cases n with
  | zero => rfl
  | succ n =>
    rw [sumTo_first, sumTo_succ]
    show f (lo + ((0 : Nat) : Int) - 1) + sumTo (fun k => f (lo + ((k + 1 : Nat) : Int) - 1)) n = sumTo (fun k => f (lo + (k : Int))) n + f (lo + (n : Int))
    have e1 : f (lo + ((0 : Nat) : Int) - 1) = 0 := by rw [← h0]; congr 1; simp
    have e2 : f (lo + (n : Int)) = 0 := by rw [← h1]; congr 1; omega
    have e3 : sumTo (fun k => f (lo + ((k + 1 : Nat) : Int) - 1)) n = sumTo (fun k => f (lo + (k : Int))) n := sumTo_congr (fun k _ => by congr 1; omega)
    rw [e1, e2, e3]; omega

/-- A sum over a box of two sides. -/
def box2 (f : Int → Int → Int) (lo : Int) (n : Nat) : Int := boxTo (fun a => boxTo (fun b => f a b) lo n) lo n

theorem box2_congr {f g : Int → Int → Int} {lo : Int} {n : Nat} (h : ∀ a b, lo ≤ a → a < lo + n → lo ≤ b → b < lo + n → f a b = g a b) : box2 f lo n = box2 g lo n :=
  boxTo_congr (fun a h1 h2 => boxTo_congr (fun b h3 h4 => h a b h1 h2 h3 h4))

theorem box2_add (f g : Int → Int → Int) (lo : Int) (n : Nat) : box2 (fun a b => f a b + g a b) lo n = box2 f lo n + box2 g lo n := by
  unfold box2 boxTo
  rw [← sumTo_add]
  exact sumTo_congr (fun k _ => sumTo_add _ _ _)

theorem box2_mul (c : Int) (f : Int → Int → Int) (lo : Int) (n : Nat) : box2 (fun a b => c * f a b) lo n = c * box2 f lo n := by
  unfold box2 boxTo
  rw [← sumTo_mul]
  exact sumTo_congr (fun k _ => sumTo_mul _ _ _)

theorem box2_sum (f : Nat → Int → Int → Int) (lo : Int) (n m : Nat) : box2 (fun a b => sumTo (fun k => f k a b) m) lo n = sumTo (fun k => box2 (fun a b => f k a b) lo n) m := by
  unfold box2 boxTo
  show sumTo (fun i => sumTo (fun j => sumTo (fun k => f k (lo + (i : Int)) (lo + (j : Int))) m) n) n = sumTo (fun k => sumTo (fun i => sumTo (fun j => f k (lo + (i : Int)) (lo + (j : Int))) n) n) m
  rw [sumTo_congr (g := fun i => sumTo (fun k => sumTo (fun j => f k (lo + (i : Int)) (lo + (j : Int))) n) m) (fun i _ => sumTo_swap (fun j k => f k (lo + (i : Int)) (lo + (j : Int))) m n)]
  exact sumTo_swap (fun i k => sumTo (fun j => f k (lo + (i : Int)) (lo + (j : Int))) n) m n

theorem box2_single {f : Int → Int → Int} {lo : Int} {n : Nat} {p q : Int} (h1 : lo ≤ p) (h2 : p < lo + n) (h3 : lo ≤ q) (h4 : q < lo + n)
    (h : ∀ a b, (a ≠ p ∨ b ≠ q) → f a b = 0) : box2 f lo n = f p q := by
  unfold box2
  rw [boxTo_single (a := p) h1 h2 (fun b _ _ hne => boxTo_zero (fun c _ _ => h b c (Or.inl hne)))]
  exact boxTo_single h3 h4 (fun b _ _ hne => h p b (Or.inr hne))

/-- Moved by one to the east or to the north, of a function that is nought at the rim. -/
theorem box2_east {f : Int → Int → Int} {lo : Int} {n : Nat} (h0 : ∀ b, f (lo - 1) b = 0) (h1 : ∀ b, f (lo + n - 1) b = 0) : box2 (fun a b => f (a - 1) b) lo n = box2 f lo n := by
  unfold box2
  exact boxTo_step (f := fun a => boxTo (fun b => f a b) lo n) (boxTo_zero (fun b _ _ => h0 b)) (boxTo_zero (fun b _ _ => h1 b))

theorem box2_north {f : Int → Int → Int} {lo : Int} {n : Nat} (h0 : ∀ a, f a (lo - 1) = 0) (h1 : ∀ a, f a (lo + n - 1) = 0) : box2 (fun a b => f a (b - 1)) lo n = box2 f lo n := by
  unfold box2
  exact boxTo_congr (fun a _ _ => boxTo_step (f := fun b => f a b) (h0 a) (h1 a))

end Go.Proofs.TW
