/- Contract: WordOk of the reference. -/
import Derived.Test.YtbeacmealippmaaDoorAlive
namespace Go.Proofs.YtbeacmealippmaaDoor
open Go.RowKit

theorem specWordOk_c (s : ByteArray) (hs : s.size ≤ maxLen) (w : World) :
    Calls Tryd.prog 33 #[.string s] w fun e w' => e = .returned (.bool (wordOk s)) ∧ w = w' := by
  unfold maxLen at hs
  go_enter Tryd.func33, Tryd.ntmps33
  go_wp2
  go_loop [3] (fun i => ∃ k : Nat, k ≤ s.size ∧ i = .int .i64 k ∧ Hid ((s.data.toList.take k).all isLetter = true)) (fun i => s.size - (intOf i).toNat)
  case atStart => exact ⟨0, Nat.zero_le _, rfl, hid rfl⟩
  case round =>
    obtain ⟨k, hk, rfl, HA⟩ := hrel
    by_cases hlt : k < s.size
    · cases h0 : ((s[k].toNat : Int) == 70) with
      | true =>
        have h0' : ((s[k].toNat : Int) != 70) = false := by unfold bne; rw [h0]; rfl
        go_wp2
        go_round
        case rel => exact ⟨k + 1, by omega, by go_num, hid (all_snoc hlt HA.out (letF h0))⟩
        case measure => simp [intOf]; omega
      | false =>
        have h0' : ((s[k].toNat : Int) != 70) = true := by unfold bne; rw [h0]; rfl
        cases h1 : ((s[k].toNat : Int) == 76) with
        | true =>
          have h1' : ((s[k].toNat : Int) != 76) = false := by unfold bne; rw [h1]; rfl
          go_wp2
          go_round
          case rel => exact ⟨k + 1, by omega, by go_num, hid (all_snoc hlt HA.out (letL h1))⟩
          case measure => simp [intOf]; omega
        | false =>
          have h1' : ((s[k].toNat : Int) != 76) = true := by unfold bne; rw [h1]; rfl
          cases h2 : ((s[k].toNat : Int) == 82) with
          | true =>
            have h2' : ((s[k].toNat : Int) != 82) = false := by unfold bne; rw [h2]; rfl
            go_wp2
            go_round
            case rel => exact ⟨k + 1, by omega, by go_num, hid (all_snoc hlt HA.out (letR h2))⟩
            case measure => simp [intOf]; omega
          | false =>
            have h2' : ((s[k].toNat : Int) != 82) = true := by unfold bne; rw [h2]; rfl
            have H := hid (wordOk_bad hlt (letNo h0 h1 h2))
            go_wp2
            go_ret
            exact ⟨ret_bool H.out.symm, rfl⟩
    · have e : k = s.size := by omega
      subst e
      by_cases hbig : 256 < s.size
      · have H := hid (wordOk_big hbig)
        go_wp2
        go_ret
        exact ⟨ret_bool (by rw [H.out]; simp; omega), rfl⟩
      · have H := hid (wordOk_good (by omega) HA.out)
        go_wp2
        go_ret
        exact ⟨ret_bool (by rw [H.out]; simp; omega), rfl⟩
end Go.Proofs.YtbeacmealippmaaDoor
