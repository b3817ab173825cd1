/- The walk of FnFarthestApart. -/
import Derived.Test.YtbklcalpojkjfaaWFarE
import Derived.Test.YtbklcalpojkjfaaDrawH
import Derived.Test.YtbklcalpojkjfaaAlive
namespace Go.Proofs.Ytbklcalpojkjfaa
open Go.RowKit TW

def FarLaw (F : Int) (p : Nat) : Prop := 1 ≤ F ∧ F ≤ p ∧ ((p : Int) - F) % 2 = 0 ∧ F * F ≤ 10 * p ∧ 0 ≤ F * F
instance (F : Int) (p : Nat) : Decidable (FarLaw F p) := inferInstanceAs (Decidable (_ ∧ _ ∧ _ ∧ _ ∧ _))
theorem far_law : ∀ k : Nat, k < 5 → 2 ≤ k → ∀ p : Nat, p < 16 → 1 ≤ p → FarLaw (farTo k p (4 ^ k - p)) p := by decide +kernel

set_option maxHeartbeats 2000000 in
theorem walk_FnFarthestApart (a : Option Addr) (len cap : Nat) (zs : List Int) (w : World) (h : IsRow .u8 w a len cap zs) :
    Calls Try.prog 15 #[.slice a len cap] w fun e w' => e = .returned (.bool true) ∧ Below w.heap.size w w' := by
  by_cases hbig : 1048576 < len
  · go_enter Try.func15, Try.ntmps15
    go_wp2
    go_ret
    exact ⟨rfl, Below.refl _ _⟩
  · go_enter Try.func15, Try.ntmps15
    go_wp2_with fail
    refine (drawFarthestApart_c _ _ _ _ _ h).mono ?_
    rintro e w1 ⟨o, r, rfl, _, _, _, _, hb⟩
    have HB := hid hb
    clear hb h
    by_cases c : (2 ≤ o ∧ o ≤ 4) ∧ (1 ≤ r ∧ r ≤ 15)
    · have e1 := far_yes c
      have f := far_law o.toNat (by omega) (by omega) r.toNat (by omega) (by omega)
      rw [← e1] at f
      unfold FarLaw at f
      have e2 : ((r.toNat : Nat) : Int) = r := by omega
      rw [e2] at f
      obtain ⟨f1, f2, f3, f4, f5⟩ := f
      obtain ⟨⟨c1, c2⟩, c3, c4⟩ := c
      clear e1 e2
      generalize hF : far o r = F at *
      clear c1 c2
      go_wp2_with (first
        | (go_at_call 32; refine (specFar_c _ _ _).mono ?_; rintro e w' ⟨rfl, rfl⟩)
        | (go_at_call 33; refine (implFar_c _ _ _).mono ?_; rintro e w' ⟨rfl, rfl⟩)
        | (go_at_call 28; refine (alive_c _).mono ?_; rintro e w' ⟨rfl, rfl⟩))
      go_ret
      exact ⟨rfl, HB.out⟩
    · have e1 := far_no c
      clear c
      go_wp2_with (first
        | (go_at_call 32; refine (specFar_c _ _ _).mono ?_; rintro e w' ⟨rfl, rfl⟩)
        | (go_at_call 33; refine (implFar_c _ _ _).mono ?_; rintro e w' ⟨rfl, rfl⟩)
        | (go_at_call 28; refine (alive_c _).mono ?_; rintro e w' ⟨rfl, rfl⟩))
      go_ret
      exact ⟨rfl, HB.out⟩
end Go.Proofs.Ytbklcalpojkjfaa
