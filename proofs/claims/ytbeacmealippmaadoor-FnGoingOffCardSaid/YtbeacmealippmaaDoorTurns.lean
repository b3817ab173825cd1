/- Contract: TurnsOf. -/
import Derived.Test.YtbeacmealippmaaDoorAlive
namespace Go.Proofs.YtbeacmealippmaaDoor
open Go.RowKit

/-- L counts 1, R counts -1. -/
def turn1 (b : UInt8) : Int := if ((b.toNat : Int) == 76) then 1 else if ((b.toNat : Int) == 82) then -1 else 0
def turns (l : List UInt8) : Int := (l.map turn1).sum
theorem turns_snoc (l : List UInt8) (b : UInt8) : turns (l ++ [b]) = turns l + turn1 b := by simp [turns]
theorem turn1_L {b : UInt8} (h : ((b.toNat : Int) == 76) = true) : turn1 b = 1 := by unfold turn1; rw [if_pos h]
theorem turn1_R {b : UInt8} (h0 : ((b.toNat : Int) == 76) = false) (h : ((b.toNat : Int) == 82) = true) : turn1 b = -1 := by unfold turn1; rw [if_neg (by rw [h0]; decide), if_pos h]
theorem turn1_N {b : UInt8} (h0 : ((b.toNat : Int) == 76) = false) (h : ((b.toNat : Int) == 82) = false) : turn1 b = 0 := by unfold turn1; rw [if_neg (by rw [h0]; decide), if_neg (by rw [h]; decide)]
theorem turn1_le (b : UInt8) : -1 ≤ turn1 b ∧ turn1 b ≤ 1 := by unfold turn1; (repeat' split) <;> omega
theorem turns_le : ∀ l : List UInt8, -(l.length : Int) ≤ turns l ∧ turns l ≤ l.length
  | [] => by simp [turns]
  | b :: l => by
    have h := turns_le l
    have h1 := turn1_le b
    simp only [turns, List.map_cons, List.sum_cons, List.length_cons] at h ⊢
    omega
theorem turns_take {s : ByteArray} {k : Nat} (h : k < s.size) : turns (s.data.toList.take (k + 1)) = turns (s.data.toList.take k) + turn1 s[k] := by rw [take_snoc s k h, turns_snoc]

/-- What TurnsOf gives. -/
def turnsOf (s : ByteArray) : Int := if wordOk s then turns s.data.toList else 0

theorem turnsOf_c (s : ByteArray) (hs : s.size ≤ maxLen) (w : World) :
    Calls Tryd.prog 21 #[.string s] w fun e w' => e = .returned (.tuple #[.int .i64 (turnsOf s), .bool (wordOk s)]) ∧ w = w' := by
  cases hok : wordOk s with
  | false =>
    have hr : Hid (turnsOf s = 0) := by unfold turnsOf; rw [hok]; rfl
    go_enter Tryd.func21, Tryd.ntmps21
    go_wp2_with (go_at_call 31; refine (wordOk_c _ hs _).mono ?_; rintro e w' ⟨rfl, rfl⟩)
    go_ret2
    exact ⟨ret_ib hr.out.symm rfl, rfl⟩
  | true =>
    have hr : Hid (turnsOf s = turns s.data.toList) := by unfold turnsOf; rw [hok]; rfl
    have hsz : s.size ≤ 256 := by unfold wordOk at hok; simp only [Bool.and_eq_true, decide_eq_true_eq] at hok; exact hok.1
    go_enter Tryd.func21, Tryd.ntmps21
    go_wp2_with (go_at_call 31; refine (wordOk_c _ hs _).mono ?_; rintro e w' ⟨rfl, rfl⟩)
    clear hs
    go_loop [4, 5] (fun t i => ∃ (k : Nat) (n : Int), k ≤ s.size ∧ i = .int .i64 k ∧ t = .int .i64 n ∧ -256 ≤ n ∧ n ≤ 256 ∧ Hid (n = turns (s.data.toList.take k))) (fun _ i => s.size - (intOf i).toNat)
    case atStart => exact ⟨0, 0, Nat.zero_le _, rfl, rfl, by omega, by omega, hid rfl⟩
    case round =>
      obtain ⟨k, n, hk, rfl, rfl, hn0, hn1, HN⟩ := hrel
      by_cases hlt : k < s.size
      · have hle := hid (turns_le (s.data.toList.take (k + 1)))
        have hst := hid (turns_take hlt)
        have hll : Hid ((s.data.toList.take (k + 1)).length ≤ 256) := by
          have := List.length_take_le (k + 1) s.data.toList
          exact (by omega : (s.data.toList.take (k + 1)).length ≤ 256)
        go_wp2
        · have e := turn1_L ‹_›
          have q := hst.out; have q1 := hle.out; have q2 := hll.out
          rw [e, ← HN.out] at q
          go_round
          case rel => exact ⟨k + 1, _, by omega, by go_num, rfl, by omega, by omega, hid q.symm⟩
          case measure => simp [intOf]; omega
        · have e := turn1_R ‹_› ‹_›
          have q := hst.out; have q1 := hle.out; have q2 := hll.out
          rw [e, ← HN.out] at q
          go_round
          case rel => exact ⟨k + 1, _, by omega, by go_num, rfl, by omega, by omega, hid q.symm⟩
          case measure => simp [intOf]; omega
        · have e := turn1_N ‹_› ‹_›
          have q := hst.out
          rw [e, ← HN.out, Int.add_zero] at q
          go_round
          case rel => exact ⟨k + 1, _, by omega, by go_num, rfl, by omega, by omega, hid q.symm⟩
          case measure => simp [intOf]; omega
      · obtain rfl : k = s.size := by omega
        go_wp2
        go_ret2
        exact ⟨ret_ib (by rw [hr.out, HN.out, take_all]) rfl, rfl⟩
end Go.Proofs.YtbeacmealippmaaDoor
