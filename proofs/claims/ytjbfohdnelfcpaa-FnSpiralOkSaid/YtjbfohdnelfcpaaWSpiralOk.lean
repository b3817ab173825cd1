/- The walk of FnSpiralOk. -/
import Derived.Test.YtjbfohdnelfcpaaSp1
import Derived.Test.YtjbfohdnelfcpaaAlive
import Derived.Test.YtjbfohdnelfcpaaDrawSp
namespace Go.Proofs.Ytjbfohdnelfcpaa
open Go.RowKit

theorem sp_orders : ∀ k : Nat, k < 10 → 1 ≤ k → spOk (k : Int) 0 = true ∧ spOk (k : Int) (2 ^ k - 1) = true ∧ spOk (k : Int) (2 ^ k) = false := by decide +kernel

theorem walk_FnSpiralOk (a : Option Addr) (len cap : Nat) (zs : List Int) (w : World) (h : IsRow .u8 w a len cap zs) : 
    Calls Try.prog 4 #[.slice a len cap] w fun e w' => e = .returned (.bool true) ∧ Below w.heap.size w w' := by
  by_cases hbig : 1048576 < len
  · go_enter Try.func4, Try.ntmps4
    go_wp2
    go_ret
    exact ⟨rfl, Below.refl _ _⟩
  · go_enter Try.func4, Try.ntmps4
    go_wp2_with (first
      | (go_at_call 9; refine (drawSpiralOk_c _ _ _ _ _ h).mono ?_; rintro e w1 ⟨o, r, rfl, _, _, _, _, hb⟩)
      | (go_at_call 7; refine (specSpiralOk_c _ _ _).mono ?_; rintro e w' ⟨rfl, rfl⟩)
      | (go_at_call 8; refine (implSpiralOk_c _ _ _).mono ?_; rintro e w' ⟨rfl, rfl⟩))
    have HB := hid hb
    clear hb h
    go_loop [6] (fun i => ∃ k : Nat, 1 ≤ k ∧ k ≤ 10 ∧ i = .int .i64 k) (fun i => 10 - (intOf i).toNat)
    case atStart => exact ⟨1, by omega, by omega, rfl⟩
    case round =>
      obtain ⟨k, hk1, hk, rfl⟩ := hrel
      by_cases hlt : k < 10
      · obtain ⟨h1, h2, h3⟩ := sp_orders k hlt hk1
        have h4 := wrap_pow k (by omega)
        have h5 := wrap_pow1 k (by omega)
        go_wp2_with (go_at_call 8; refine (implSpiralOk_c _ _ _).mono ?_; rintro e w' ⟨rfl, rfl⟩)
        go_round
        case rel => exact ⟨k + 1, by omega, by omega, by go_num⟩
        case measure => simp [intOf]; omega
      · go_wp2_with (go_at_call 10; refine (alive_c _).mono ?_; rintro e w' ⟨rfl, rfl⟩)
        go_ret
        exact ⟨rfl, HB.out⟩
end Go.Proofs.Ytjbfohdnelfcpaa
