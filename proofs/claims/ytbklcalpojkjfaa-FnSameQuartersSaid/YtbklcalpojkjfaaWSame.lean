/- The walk of FnSameQuarters. -/
import Derived.Test.YtbklcalpojkjfaaHil6
import Derived.Test.YtbklcalpojkjfaaDrawSQ
import Derived.Test.YtbklcalpojkjfaaAlive
import Derived.Test.YtbklcalpojkjfaaBits3
namespace Go.Proofs.Ytbklcalpojkjfaa
open Go.RowKit TW

theorem hil_top : ∀ k : Nat, k < 6 → ∀ l : Nat, l < 6 → l ≤ k → ∀ n : Nat, n < 4 ^ k → hil (k - l) (n / 4 ^ l) = ((hil k n).1 / 2 ^ l, (hil k n).2 / 2 ^ l) := by decide +kernel
/-- The same square, just if the same first digits. -/
theorem top_iff {k l a b : Nat} (hk : k < 6) (hl : l ≤ k) (ha : a < 4 ^ k) (hb : b < 4 ^ k) : ((hil k a).1 / 2 ^ l = (hil k b).1 / 2 ^ l ∧ (hil k a).2 / 2 ^ l = (hil k b).2 / 2 ^ l) ↔ a / 4 ^ l = b / 4 ^ l := by
  have ta := hil_top k hk l (by omega) hl a ha
  have tb := hil_top k hk l (by omega) hl b hb
  have e : 4 ^ k = 4 ^ l * 4 ^ (k - l) := by rw [← Nat.pow_add]; congr 1; omega
  have la : a / 4 ^ l < 4 ^ (k - l) := Nat.div_lt_of_lt_mul (by rw [← e]; exact ha)
  have lb : b / 4 ^ l < 4 ^ (k - l) := Nat.div_lt_of_lt_mul (by rw [← e]; exact hb)
  constructor
  · rintro ⟨h1, h2⟩
    have na := num_hil (k - l) (by omega) _ la
    have nb := num_hil (k - l) (by omega) _ lb
    rw [ta] at na
    rw [tb] at nb
    rw [← na, ← nb]
    show num (k - l) ((hil k a).1 / 2 ^ l) ((hil k a).2 / 2 ^ l) = _
    rw [h1, h2]
  · intro h
    rw [h, tb] at ta
    exact ⟨(congrArg Prod.fst ta).symm, (congrArg Prod.snd ta).symm⟩

theorem sq_top {k l a b : Nat} (h1 : 1 ≤ k) (hk : k < 6) (hl : l ≤ k) (ha : a < 4 ^ k) (hb : b < 4 ^ k) : sq k a b l = (((a : Int) / 2 ^ (2 * l)) == ((b : Int) / 2 ^ (2 * l))) := by
  rw [sq_in (by omega) (by omega) (by omega) (by omega) (nuOk_of hk ha) (nuOk_of hk hb), hX_of hk ha, hX_of hk hb, hY_of hk ha, hY_of hk hb]
  have t := top_iff hk hl ha hb
  have c2 : (2 : Int) ^ (l : Int).toNat = ((2 ^ l : Nat) : Int) := by simp
  have c4 : (2 : Int) ^ (2 * l) = ((4 ^ l : Nat) : Int) := by
    rw [Int.pow_mul]; simp
  rw [c2, c4, ← Int.natCast_ediv, ← Int.natCast_ediv, ← Int.natCast_ediv, ← Int.natCast_ediv, ← Int.natCast_ediv, ← Int.natCast_ediv]
  rw [Bool.eq_iff_iff]
  simp only [Bool.and_eq_true, decide_eq_true_eq, beq_iff_eq]
  omega

set_option maxRecDepth 100000 in
set_option maxHeartbeats 4000000 in
theorem walk_FnSameQuarters (a : Option Addr) (len cap : Nat) (zs : List Int) (w : World) (h : IsRow .u8 w a len cap zs) :
    Calls Try.prog 13 #[.slice a len cap] w fun e w' => e = .returned (.bool true) ∧ Below w.heap.size w w' := by
  by_cases hbig : 1048576 < len
  · go_enter Try.func13, Try.ntmps13
    go_wp2
    go_ret
    exact ⟨rfl, Below.refl _ _⟩
  · go_enter Try.func13, Try.ntmps13
    go_wp2_with fail
    refine (drawSameQuarters_c _ _ _ _ _ h).mono ?_
    rintro e w1 ⟨k, x, y, l, rfl, hk, hx, hy, hl, hb⟩
    have HB := hid hb
    clear hb h
    obtain ⟨k, rfl⟩ := Int.eq_ofNat_of_zero_le (show 0 ≤ k by omega)
    obtain ⟨x, rfl⟩ := Int.eq_ofNat_of_zero_le hx.1
    obtain ⟨y, rfl⟩ := Int.eq_ofNat_of_zero_le hy.1
    obtain ⟨l, rfl⟩ := Int.eq_ofNat_of_zero_le hl.1
    have c4 : (4 : Int) ^ ((k : Int)).toNat = ((4 ^ k : Nat) : Int) := by simp
    rw [c4] at hx hy
    have hx4 : x < 4 ^ k := by omega
    have hy4 : y < 4 ^ k := by omega
    obtain ⟨hk1, hk5⟩ := hk
    have hl11 := hl.2
    by_cases hlk : l ≤ k
    · have f1 := sq_top (by omega) (by omega) hlk hx4 hy4
      have f2 := sq_top (l := 0) (by omega) (by omega) (Nat.zero_le _) hx4 hx4
      have f3 : sq k x x 0 = true := by rw [show (0 : Int) = ((0 : Nat) : Int) from rfl, f2]; simp
      have HF := hid f1
      have hlt2 : (x : Int) < 2 ^ (2 * k) ∧ (y : Int) < 2 ^ (2 * k) := by
        have e : (2 : Int) ^ (2 * k) = ((4 ^ k : Nat) : Int) := by rw [Int.pow_mul]; simp
        rw [e]; omega
      obtain ⟨i1, i2⟩ := hlt2
      have hw := wrap_pow (2 * k) (by omega)
      have e2 : (2 * (k : Int)).toNat = 2 * k := by omega
      have e3 : (2 * (l : Int)).toNat = 2 * l := by omega
      have e4 := IntWalk.i64_in (2 * (l : Int)) (by omega)
      have e5 : (sq k x y l == (((x : Int) / 2 ^ (2 * l)) == ((y : Int) / 2 ^ (2 * l)))) = true := by rw [HF.out]; simp
      clear f1 f2 c4 hx hy hx4 hy4 hl
      go_wp2_with (first
        | (go_at_call 30; refine (specSame_c _ _ _ _ _).mono ?_; rintro e w' ⟨rfl, d1, rfl⟩)
        | (go_at_call 31; refine (implSame_c _ _ _ _ _).mono ?_; rintro e w' ⟨rfl, d2, rfl⟩))
      have HB := hid (below_drewN HB.out (d2 + d1))
      generalize w1.drewN (d2 + d1) = W at *
      have HQ := hid (fun w => implSame_c k x x 0 w)
      go_quiet (first | (go_at_call 31; refine (HQ.out _).mono ?_; rintro e w2 ⟨rfl, d, rfl⟩; exact ⟨rfl, _, World.drewN_drewN ..⟩))
      go_wp2_with fail
      go_ret
      exact ⟨rfl, below_drewN HB.out _⟩
    · have f1 : sq k x y l = false := sq_l (by omega)
      clear c4 hx hy hx4 hy4 hl
      go_wp2_with (first
        | (go_at_call 30; refine (specSame_c _ _ _ _ _).mono ?_; rintro e w' ⟨rfl, d, rfl⟩)
        | (go_at_call 31; refine (implSame_c _ _ _ _ _).mono ?_; rintro e w' ⟨rfl, d, rfl⟩)
        | (go_at_call 28; refine (alive_c _).mono ?_; rintro e w' ⟨rfl, rfl⟩))
      go_ret
      first | exact ⟨rfl, below_drewN HB.out _⟩ | exact ⟨rfl, below_drewN (below_drewN HB.out _) _⟩
end Go.Proofs.Ytbklcalpojkjfaa
