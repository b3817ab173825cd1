/- The walks of FnNumberOf. -/
import Derived.Test.YtbklcalpojkjfaaHil4
import Derived.Test.YtbklcalpojkjfaaHil5
import Derived.Test.YtbklcalpojkjfaaDrawH
import Derived.Test.YtbklcalpojkjfaaAlive
import Derived.Test.YtbklcalpojkjfaaBits3
namespace Go.Proofs.Ytbklcalpojkjfaa
open Go.RowKit TW

def NextLaw (x y p q : Nat) : Prop := ((p : Int) - x) * ((p : Int) - x) + ((q : Int) - y) * ((q : Int) - y) = 1 ∧ 0 ≤ ((p : Int) - x) * ((p : Int) - x) ∧ ((p : Int) - x) * ((p : Int) - x) ≤ 1 ∧ 0 ≤ ((q : Int) - y) * ((q : Int) - y) ∧ ((q : Int) - y) * ((q : Int) - y) ≤ 1
instance (x y p q : Nat) : Decidable (NextLaw x y p q) := inferInstanceAs (Decidable (_ ∧ _ ∧ _ ∧ _ ∧ _))
theorem next_law : ∀ k : Nat, k < 6 → ∀ n : Nat, n < 4 ^ k → n + 1 < 4 ^ k → NextLaw (hil k n).1 (hil k n).2 (hil k (n + 1)).1 (hil k (n + 1)).2 := by decide +kernel
theorem low_law : ∀ k : Nat, k < 6 → ∀ n : Nat, n < 4 ^ k → k = 0 ∨ ((2 * (hil k n).1 < 2 ^ k ∧ 2 * (hil k n).2 < 2 ^ k) ↔ 4 * n < 4 ^ k) := by decide +kernel
theorem nuOk_end {k n : Nat} (hk : k < 6) (h : ¬ n + 1 < 4 ^ k) : nuOk k ((n : Int) + 1) = false := by
  cases e : nuOk k ((n : Int) + 1) with
  | false => rfl
  | true =>
    obtain ⟨k', a, e1, e2, _, ha⟩ := nuOk_nat e
    obtain rfl : k = k' := by omega
    obtain rfl : a = n + 1 := by omega
    exact absurd ha h
theorem sq_bd {x n : Nat} (h : x < n) (hn : n ≤ 32) : 0 ≤ (x : Int) * x ∧ (x : Int) * x ≤ 1024 := by
  have h1 : x * x ≤ 32 * 32 := Nat.mul_le_mul (by omega) (by omega)
  have h2 : ((x * x : Nat) : Int) = (x : Int) * x := Int.natCast_mul x x
  omega

set_option maxRecDepth 100000 in
set_option maxHeartbeats 8000000 in
theorem walk_FnNumberOf (a : Option Addr) (len cap : Nat) (zs : List Int) (w : World) (h : IsRow .u8 w a len cap zs) :
    Calls Try.prog 14 #[.slice a len cap] w fun e w' => e = .returned (.bool true) ∧ Below w.heap.size w w' := by
  by_cases hbig : 1048576 < len
  · go_enter Try.func14, Try.ntmps14
    go_wp2
    go_ret
    exact ⟨rfl, Below.refl _ _⟩
  · go_enter Try.func14, Try.ntmps14
    go_wp2_with fail
    refine (drawNumberOf_c _ _ _ _ _ h).mono ?_
    rintro e w1 ⟨o, x, y, rfl, _, _, _, hb⟩
    have HB := hid hb
    clear hb h
    cases hok : ceOk o x y with
    | false =>
      have e1 := hN_no hok
      go_wp2_with (first
        | (go_at_call 25; refine (specCell_c _ _ _).mono ?_; rintro e w' ⟨rfl, rfl⟩)
        | (go_at_call 26; refine (implCell_c _ _ _).mono ?_; rintro e w' ⟨rfl, rfl⟩)
        | (go_at_call 23; refine (specNumber_c _ _ _ _).mono ?_; rintro e w' ⟨rfl, rfl⟩)
        | (go_at_call 24; refine (implNumber_c _ _ _ _).mono ?_; rintro e w' ⟨rfl, d, rfl⟩)
        | (go_at_call 28; refine (alive_c _).mono ?_; rintro e w' ⟨rfl, rfl⟩))
      go_ret
      first | exact ⟨rfl, HB.out⟩ | exact ⟨rfl, below_drewN HB.out _⟩
    | true =>
      obtain ⟨k, x, y, rfl, rfl, rfl, hk, hx, hy⟩ := ceOk_nat hok
      have f1 := hN_of hk hx hy
      obtain ⟨f2, f3⟩ := hil_num k hk x hx y hy
      have f4 := nuOk_of hk f2
      have f5 := hX_of hk f2
      have f6 := hY_of hk f2
      rw [f3] at f5 f6
      clear f3 f2 hx hy
      obtain rfl | rfl | rfl | rfl | rfl | rfl : k = 0 ∨ k = 1 ∨ k = 2 ∨ k = 3 ∨ k = 4 ∨ k = 5 := by omega
      · have c1 : hN 0 x y = ((num 0 x y : Nat) : Int) := f1
        have c2 : nuOk 0 ((num 0 x y : Nat) : Int) = true := f4
        have c3 : hX 0 ((num 0 x y : Nat) : Int) = x := f5
        have c4 : hY 0 ((num 0 x y : Nat) : Int) = y := f6
        have c5 : hN 0 0 0 = 0 := by decide +kernel
        have c6 : hN 0 0 0 = 0 := by decide +kernel
        clear f1 f4 f5 f6 hok
        generalize num 0 x y = N at *
        go_wp2_with (first
          | (go_at_call 25; refine (specCell_c _ _ _).mono ?_; rintro e w' ⟨rfl, rfl⟩)
          | (go_at_call 26; refine (implCell_c _ _ _).mono ?_; rintro e w' ⟨rfl, rfl⟩)
          | (go_at_call 23; refine (specNumber_c _ _ _ _).mono ?_; rintro e w' ⟨rfl, rfl⟩)
          | (go_at_call 24; refine (implNumber_c _ _ _ _).mono ?_; rintro e w' ⟨rfl, d, rfl⟩)
          | (go_at_call 28; refine (alive_c _).mono ?_; rintro e w' ⟨rfl, rfl⟩))
        go_ret
        exact ⟨rfl, below_drewN HB.out _⟩
      · have c1 : hN 1 x y = ((num 1 x y : Nat) : Int) := f1
        have c2 : nuOk 1 ((num 1 x y : Nat) : Int) = true := f4
        have c3 : hX 1 ((num 1 x y : Nat) : Int) = x := f5
        have c4 : hY 1 ((num 1 x y : Nat) : Int) = y := f6
        have c5 : hN 1 0 0 = 0 := by decide +kernel
        have c6 : hN 1 1 0 = 3 := by decide +kernel
        clear f1 f4 f5 f6 hok
        generalize num 1 x y = N at *
        go_wp2_with (first
          | (go_at_call 25; refine (specCell_c _ _ _).mono ?_; rintro e w' ⟨rfl, rfl⟩)
          | (go_at_call 26; refine (implCell_c _ _ _).mono ?_; rintro e w' ⟨rfl, rfl⟩)
          | (go_at_call 23; refine (specNumber_c _ _ _ _).mono ?_; rintro e w' ⟨rfl, rfl⟩)
          | (go_at_call 24; refine (implNumber_c _ _ _ _).mono ?_; rintro e w' ⟨rfl, d, rfl⟩)
          | (go_at_call 28; refine (alive_c _).mono ?_; rintro e w' ⟨rfl, rfl⟩))
        go_ret
        exact ⟨rfl, below_drewN HB.out _⟩
      · have c1 : hN 2 x y = ((num 2 x y : Nat) : Int) := f1
        have c2 : nuOk 2 ((num 2 x y : Nat) : Int) = true := f4
        have c3 : hX 2 ((num 2 x y : Nat) : Int) = x := f5
        have c4 : hY 2 ((num 2 x y : Nat) : Int) = y := f6
        have c5 : hN 2 0 0 = 0 := by decide +kernel
        have c6 : hN 2 3 0 = 15 := by decide +kernel
        clear f1 f4 f5 f6 hok
        generalize num 2 x y = N at *
        go_wp2_with (first
          | (go_at_call 25; refine (specCell_c _ _ _).mono ?_; rintro e w' ⟨rfl, rfl⟩)
          | (go_at_call 26; refine (implCell_c _ _ _).mono ?_; rintro e w' ⟨rfl, rfl⟩)
          | (go_at_call 23; refine (specNumber_c _ _ _ _).mono ?_; rintro e w' ⟨rfl, rfl⟩)
          | (go_at_call 24; refine (implNumber_c _ _ _ _).mono ?_; rintro e w' ⟨rfl, d, rfl⟩)
          | (go_at_call 28; refine (alive_c _).mono ?_; rintro e w' ⟨rfl, rfl⟩))
        go_ret
        exact ⟨rfl, below_drewN HB.out _⟩
      · have c1 : hN 3 x y = ((num 3 x y : Nat) : Int) := f1
        have c2 : nuOk 3 ((num 3 x y : Nat) : Int) = true := f4
        have c3 : hX 3 ((num 3 x y : Nat) : Int) = x := f5
        have c4 : hY 3 ((num 3 x y : Nat) : Int) = y := f6
        have c5 : hN 3 0 0 = 0 := by decide +kernel
        have c6 : hN 3 7 0 = 63 := by decide +kernel
        clear f1 f4 f5 f6 hok
        generalize num 3 x y = N at *
        go_wp2_with (first
          | (go_at_call 25; refine (specCell_c _ _ _).mono ?_; rintro e w' ⟨rfl, rfl⟩)
          | (go_at_call 26; refine (implCell_c _ _ _).mono ?_; rintro e w' ⟨rfl, rfl⟩)
          | (go_at_call 23; refine (specNumber_c _ _ _ _).mono ?_; rintro e w' ⟨rfl, rfl⟩)
          | (go_at_call 24; refine (implNumber_c _ _ _ _).mono ?_; rintro e w' ⟨rfl, d, rfl⟩)
          | (go_at_call 28; refine (alive_c _).mono ?_; rintro e w' ⟨rfl, rfl⟩))
        go_ret
        exact ⟨rfl, below_drewN HB.out _⟩
      · have c1 : hN 4 x y = ((num 4 x y : Nat) : Int) := f1
        have c2 : nuOk 4 ((num 4 x y : Nat) : Int) = true := f4
        have c3 : hX 4 ((num 4 x y : Nat) : Int) = x := f5
        have c4 : hY 4 ((num 4 x y : Nat) : Int) = y := f6
        have c5 : hN 4 0 0 = 0 := by decide +kernel
        have c6 : hN 4 15 0 = 255 := by decide +kernel
        clear f1 f4 f5 f6 hok
        generalize num 4 x y = N at *
        go_wp2_with (first
          | (go_at_call 25; refine (specCell_c _ _ _).mono ?_; rintro e w' ⟨rfl, rfl⟩)
          | (go_at_call 26; refine (implCell_c _ _ _).mono ?_; rintro e w' ⟨rfl, rfl⟩)
          | (go_at_call 23; refine (specNumber_c _ _ _ _).mono ?_; rintro e w' ⟨rfl, rfl⟩)
          | (go_at_call 24; refine (implNumber_c _ _ _ _).mono ?_; rintro e w' ⟨rfl, d, rfl⟩)
          | (go_at_call 28; refine (alive_c _).mono ?_; rintro e w' ⟨rfl, rfl⟩))
        go_ret
        exact ⟨rfl, below_drewN HB.out _⟩
      · have c1 : hN 5 x y = ((num 5 x y : Nat) : Int) := f1
        have c2 : nuOk 5 ((num 5 x y : Nat) : Int) = true := f4
        have c3 : hX 5 ((num 5 x y : Nat) : Int) = x := f5
        have c4 : hY 5 ((num 5 x y : Nat) : Int) = y := f6
        have c5 : hN 5 0 0 = 0 := by decide +kernel
        have c6 : hN 5 31 0 = 1023 := by decide +kernel
        clear f1 f4 f5 f6 hok
        generalize num 5 x y = N at *
        go_wp2_with (first
          | (go_at_call 25; refine (specCell_c _ _ _).mono ?_; rintro e w' ⟨rfl, rfl⟩)
          | (go_at_call 26; refine (implCell_c _ _ _).mono ?_; rintro e w' ⟨rfl, rfl⟩)
          | (go_at_call 23; refine (specNumber_c _ _ _ _).mono ?_; rintro e w' ⟨rfl, rfl⟩)
          | (go_at_call 24; refine (implNumber_c _ _ _ _).mono ?_; rintro e w' ⟨rfl, d, rfl⟩)
          | (go_at_call 28; refine (alive_c _).mono ?_; rintro e w' ⟨rfl, rfl⟩))
        go_ret
        exact ⟨rfl, below_drewN HB.out _⟩

end Go.Proofs.Ytbklcalpojkjfaa
