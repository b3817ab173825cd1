/- The walk of FnSpiralWord. -/
import Derived.Test.YtjbfohdnelfcpaaSpWord2
import Derived.Test.YtjbfohdnelfcpaaSpFacts
import Derived.Test.YtjbfohdnelfcpaaDrawSp
namespace Go.Proofs.Ytjbfohdnelfcpaa
open Go.RowKit TW

set_option maxHeartbeats 1000000 in
theorem walk_FnSpiralWord (a : Option Addr) (len cap : Nat) (zs : List Int) (w : World) (h : IsRow .u8 w a len cap zs) :
    Calls Try.prog 6 #[.slice a len cap] w fun e w' => e = .returned (.bool true) ∧ Below w.heap.size w w' := by
  by_cases hbig : 1048576 < len
  · go_enter Try.func6, Try.ntmps6
    go_wp2
    go_ret
    exact ⟨rfl, Below.refl _ _⟩
  · go_enter Try.func6, Try.ntmps6
    go_wp2_with fail
    refine (drawSpiralWord_c _ _ _ _ _ h).mono ?_
    rintro e w1 ⟨o, r, rfl, _, _, _, _, hb⟩
    have HB := hid hb
    clear hb h
    cases hok : spOk o r with
    | false =>
      have hres : wordFor o r = ByteArray.empty := by unfold wordFor; rw [hok]; rfl
      go_wp2_with (first
        | (go_at_call 11; refine (specSpiralWord_c _ _ _).mono ?_; rintro e w' ⟨rfl, rfl⟩)
        | (go_at_call 12; refine (implSpiralWord_c _ _ _).mono ?_; rintro e w' ⟨rfl, hb2⟩)
        | (go_at_call 8; refine (implSpiralOk_c _ _ _).mono ?_; rintro e w' ⟨rfl, rfl⟩)
        | (go_at_call 10; refine (alive_c _).mono ?_; rintro e w' ⟨rfl, rfl⟩))
      go_ret
      exact ⟨rfl, HB.out.trans (hb2.mono HB.out.size)⟩
    | true =>
      obtain ⟨n, m, rfl, rfl, hn, hn9, hm⟩ := spOk_nat hok
      obtain ⟨g1, g2, g3, g4, g5, g6, g7, g8⟩ := spFacts hok
      obtain ⟨p, hp, hp9⟩ : ∃ p : Nat, (n : Int) * ((n : Int) + 1) = (p : Int) ∧ n * (n + 1) = p := ⟨n * (n + 1), by simp, rfl⟩
      have hp90 : p ≤ 90 := by rw [← hp9]; exact Nat.mul_le_mul hn9 (show n + 1 ≤ 10 by omega)
      rw [hp9] at g4
      have g4' : (wordFor n m).size = p / 2 + n := by omega
      have h4 := wrap_pow n (by omega)
      have h5 := wrap_pow1 n (by omega)
      have hm' : (m : Int) < 2 ^ n := by have : ((2 ^ n : Nat) : Int) = 2 ^ n := by simp
                                         omega
      have hm5 : (2 : Int) ^ n ≤ 512 := by
        have : (2 : Nat) ^ n ≤ 2 ^ 9 := Nat.pow_le_pow_right (by omega) hn9
        have e : ((2 ^ n : Nat) : Int) = 2 ^ n := by simp
        omega
      clear g4 hp9
      go_wp2_with (first
        | (go_at_call 11; refine (specSpiralWord_c _ _ _).mono ?_; rintro e w' ⟨rfl, rfl⟩)
        | (go_at_call 12; refine (implSpiralWord_c _ _ _).mono ?_; rintro e w' ⟨rfl, hb2⟩; have HB := hid (HB.out.trans (hb2.mono HB.out.size)); clear hb2)
        | (go_at_call 14; refine (turnsOf_c _ (by unfold maxLen; omega) _).mono ?_; rintro e w' ⟨rfl, rfl⟩)
        | (go_at_call 15; refine (wordOk_c _ (by unfold maxLen; omega) _).mono ?_; rintro e w' ⟨rfl, rfl⟩))
      go_ret
      exact ⟨rfl, HB.out⟩
end Go.Proofs.Ytjbfohdnelfcpaa
