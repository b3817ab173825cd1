/- Contracts: TurningOf of both packages. -/
import Derived.Test.YtmojhdnehmjnmaaDoorSpD
import Derived.Test.YtmojhdnehmjnmaaDoorWkD
import Derived.Deep.QuietTactic
import Derived.BigQuiet
namespace Go.Proofs.YtmojhdnehmjnmaaDoor
open Go.RowKit TW

/-- Turns so far. -/
def tnS (l : List UInt8) (k : Nat) : Int := sumTo (fun k => turnOf (lkB (at0 l k)) (lkB (at0 l ((k + 1) % l.length)))) k
theorem tnS_succ (l : List UInt8) (k : Nat) : tnS l (k + 1) = tnS l k + turnOf (lkB (at0 l k)) (lkB (at0 l ((k + 1) % l.length))) := rfl
theorem turn_le (a b : Int) : -1 ≤ turnOf a b ∧ turnOf a b ≤ 1 := by unfold turnOf; (repeat' split) <;> omega
theorem tnS_le (l : List UInt8) : ∀ k : Nat, -(k : Int) ≤ tnS l k ∧ tnS l k ≤ k
  | 0 => by unfold tnS; simp [sumTo]
  | k + 1 => by
    have ih := tnS_le l k
    have := turn_le (lkB (at0 l k)) (lkB (at0 l ((k + 1) % l.length)))
    rw [tnS_succ]
    omega
def tnR (l : List UInt8) : Int := if clL l then tnL l else 0
theorem tnR_no {l : List UInt8} (h : clL l = false) : tnR l = 0 := by unfold tnR; rw [h]; rfl
theorem tnR_yes {l : List UInt8} (h : clL l = true) : tnR l = tnL l := by unfold tnR; rw [if_pos h]
theorem mod4_bd' {x : Int} (h : 0 ≤ x) : 0 ≤ x % 4 ∧ x % 4 < 4 := ⟨Int.emod_nonneg _ (by omega), Int.emod_lt_of_pos _ (by omega)⟩

theorem look_bd {s : ByteArray} (h : (lets s).all isStep = true) {k : Nat} (hk : k < s.size) : 0 ≤ lkB s[k] ∧ lkB s[k] ≤ 3 := by
  rw [List.all_eq_true] at h
  exact step_look (h _ (by have := take_snoc s k hk; exact List.mem_of_mem_take (i := k + 1) (by rw [this]; simp)))

set_option maxHeartbeats 4000000 in
theorem implTurningOf_c (s : ByteArray) (hs : s.size ≤ maxLen) (w : World) (hd : Dirs w) :
    Calls Tryd.prog 28 #[.string s] w fun e w' => e = .returned (.tuple #[.int .i64 (tnR (lets s)), .bool (clL (lets s))]) ∧ Below w.heap.size w w' := by
  have HD := hid hd
  clear hd
  go_enter Tryd.func28, Tryd.ntmps28
  go_wp2_with fail
  refine (implClosedOk_c s hs _ HD.out).mono ?_
  rintro e w1 ⟨rfl, hb1⟩
  have HB1 := hid hb1
  clear hb1
  cases hcl : clL (lets s) with
  | false =>
    have HR := hid (tnR_no hcl)
    have HC := hid hcl
    clear hcl
    go_wp2_with fail
    go_ret2
    exact ⟨by rw [HR.out, HC.out]; rfl, HB1.out⟩
  | true =>
    have HC := hid hcl
    obtain ⟨h40, hall⟩ := cl_facts hcl
    have HA := hid hall
    have HR : Hid (tnS (lets s) s.size = tnR (lets s)) := hid (by rw [tnR_yes hcl]; unfold tnS tnL; rw [lets_len])
    clear hcl hall
    go_wp2_with fail
    go_loopg [4, 5] 100 (fun gg a i wr => ∃ k : Nat, gg = 100 - k ∧ k ≤ s.size ∧ i = .int .i64 k ∧ a = .int .i64 (tnS (lets s) k) ∧ wr = w1)
    case atStart => exact ⟨0, rfl, Nat.zero_le _, rfl, rfl, rfl⟩
    case round =>
      obtain ⟨k, hgg, hk, rfl, rfl, rfl⟩ := hrel
      have HGG := hid hgg
      clear hgg
      by_cases hlt : k < s.size
      · obtain ⟨b1, b2⟩ := tnS_le (lets s) k
        have HS := hid (tnS_succ (lets s) k)
        have hm : (k + 1) % s.size < s.size := Nat.mod_lt _ (by omega)
        rw [at0_lets hlt, lets_len, at0_lets hm] at HS
        obtain ⟨p1, p2⟩ := look_bd HA.out hlt
        obtain ⟨q1, q2⟩ := look_bd HA.out hm
        have HC1 := hid (fun w => directionOf_c s[k] w)
        have HC2 := hid (fun w => directionOf_c (s[(k + 1) % s.size]'hm) w)
        have e1 : ((k : Int) + 1) % (s.size : Int) = (((k + 1) % s.size : Nat) : Int) := rfl
        have e2 : ((k : Int) + 1).tmod (s.size : Int) = (((k + 1) % s.size : Nat) : Int) := rfl
        have tz : ((s.size : Int) == 0) = false := by rw [beq_eq_false_iff_ne]; omega
        generalize (k + 1) % s.size = m at *
        generalize tnS (lets s) k = A at *
        generalize lkB s[k] = p at *
        generalize lkB s[m] = q at *
        have i1 : (k : Int) < (s.size : Int) := by omega
        have i2 : (0 : Int) ≤ (k : Int) := Int.natCast_nonneg _
        have i3 : (m : Int) < (s.size : Int) := by omega
        have i4 : (0 : Int) ≤ (m : Int) := Int.natCast_nonneg _
        have HT : Hid (turnOf p q = if (q - p + 4) % 4 = 1 then 1 else if (q - p + 4) % 4 = 3 then -1 else 0) := hid rfl
        rw [HT.out] at HS
        have hdd := mod4_bd' (x := q - p + 4) (by omega)
        have HE1 := hid e1
        have HE2 := hid e2
        have TZ := hid tz
        clear HT e1 e2
        go_wp2_with fail
        refine (HC1.out _).mono ?_
        rintro e w2 ⟨rfl, rfl⟩
        have e1 := HE1.out
        have e2 := HE2.out
        go_wp2_with fail
        refine (HC2.out _).mono ?_
        rintro e w3 ⟨rfl, rfl⟩
        clear e1 e2 tz HC1 HC2
        by_cases c1 : (q - p + 4) % 4 = 1
        · have t1 : ((q - p + 4) % 4 == 1) = true := by simpa using c1
          have HS2 : Hid (tnS (lets s) (k + 1) = A + 1) := hid (by rw [HS.out, if_pos c1])
          clear c1 HS
          go_wp2_with fail
          go_roundg (100 - (k + 1))
          case measure => rw [HGG.out]; omega
          case rel => exact ⟨k + 1, rfl, by omega, by go_num, vint (by rw [HS2.out]), rfl⟩
        · have t1 : ((q - p + 4) % 4 == 1) = false := by simpa using c1
          by_cases c2 : (q - p + 4) % 4 = 3
          · have t2 : ((q - p + 4) % 4 == 3) = true := by simpa using c2
            have HS2 : Hid (tnS (lets s) (k + 1) = A - 1) := hid (by rw [HS.out, if_neg c1, if_pos c2]; omega)
            clear c1 c2 HS
            go_wp2_with fail
            go_roundg (100 - (k + 1))
            case measure => rw [HGG.out]; omega
            case rel => exact ⟨k + 1, rfl, by omega, by go_num, vint (by rw [HS2.out]), rfl⟩
          · have t2 : ((q - p + 4) % 4 == 3) = false := by simpa using c2
            have HS2 : Hid (tnS (lets s) (k + 1) = A) := hid (by rw [HS.out, if_neg c1, if_neg c2]; omega)
            clear c1 c2 HS
            go_wp2_with fail
            go_roundg (100 - (k + 1))
            case measure => rw [HGG.out]; omega
            case rel => exact ⟨k + 1, rfl, by omega, by go_num, vint (by rw [HS2.out]), rfl⟩
      · have HK : Hid (k = s.size) := hid (by omega)
        have hlt' : ¬ (k : Int) < (s.size : Int) := by omega
        clear hlt hk
        go_wp2_with fail
        go_ret2
        exact ⟨by rw [← HR.out, HC.out, HK.out]; rfl, HB1.out⟩

theorem l4Turn_c (p q : Int) (hp : 0 ≤ p ∧ p ≤ 3) (hq : 0 ≤ q ∧ q ≤ 3) (w : World) :
    Calls Tryd.prog 53 #[.int .i64 p, .int .i64 q] w fun e w' => e = .returned (.int .i64 (turnOf p q)) ∧ w = w' := by
  obtain ⟨p1, p2⟩ := hp
  obtain ⟨q1, q2⟩ := hq
  obtain rfl | rfl | rfl | rfl : p = 0 ∨ p = 1 ∨ p = 2 ∨ p = 3 := by omega
  all_goals
    obtain rfl | rfl | rfl | rfl : q = 0 ∨ q = 1 ∨ q = 2 ∨ q = 3 := by omega
  all_goals
    go_enter Tryd.func53, Tryd.ntmps53
    go_wp2
    go_ret
    exact ⟨ret_int (by decide), rfl⟩

set_option maxHeartbeats 4000000 in
theorem specTurningOf_c (s : ByteArray) (hs : s.size ≤ maxLen) (w : World) :
    Calls Tryd.prog 29 #[.string s] w fun e w' => e = .returned (.tuple #[.int .i64 (tnR (lets s)), .bool (clL (lets s))]) ∧ Below w.heap.size w w' := by
  go_enter Tryd.func29, Tryd.ntmps29
  go_wp2_with fail
  refine (specClosedOk_c s hs _).mono ?_
  rintro e w1 ⟨rfl, hb1⟩
  have HB1 := hid hb1
  clear hb1 hs
  cases hcl : clL (lets s) with
  | false =>
    have HR := hid (tnR_no hcl)
    have HC := hid hcl
    clear hcl
    go_wp2_with fail
    go_ret2
    exact ⟨by rw [HR.out, HC.out]; rfl, HB1.out⟩
  | true =>
    have HC := hid hcl
    obtain ⟨h40, hall⟩ := cl_facts hcl
    have HA := hid hall
    have HR : Hid (tnS (lets s) s.size = tnR (lets s)) := hid (by rw [tnR_yes hcl]; unfold tnS tnL; rw [lets_len])
    clear hcl hall
    go_wp2_with fail
    go_loopg [4, 5] 100 (fun gg a i wr => ∃ k d : Nat, gg = 100 - k ∧ k ≤ s.size ∧ i = .int .i64 k ∧ a = .int .i64 (tnS (lets s) k) ∧ wr = w1.drewN d)
    case atStart => exact ⟨0, 0, rfl, Nat.zero_le _, rfl, rfl, rfl⟩
    case round =>
      obtain ⟨k, d, hgg, hk, rfl, rfl, rfl⟩ := hrel
      have HGG := hid hgg
      clear hgg
      by_cases hlt : k < s.size
      · obtain ⟨b1, b2⟩ := tnS_le (lets s) k
        have HS := hid (tnS_succ (lets s) k)
        have hm : (k + 1) % s.size < s.size := Nat.mod_lt _ (by omega)
        rw [at0_lets hlt, lets_len, at0_lets hm] at HS
        obtain ⟨p1, p2⟩ := look_bd HA.out hlt
        obtain ⟨q1, q2⟩ := look_bd HA.out hm
        have HC1 := hid (fun w => l4Look_c s[k] w)
        have HC2 := hid (fun w => l4Look_c (s[(k + 1) % s.size]'hm) w)
        have e1 : ((k : Int) + 1) % (s.size : Int) = (((k + 1) % s.size : Nat) : Int) := rfl
        have e2 : ((k : Int) + 1).tmod (s.size : Int) = (((k + 1) % s.size : Nat) : Int) := rfl
        have tz : ((s.size : Int) == 0) = false := by rw [beq_eq_false_iff_ne]; omega
        generalize (k + 1) % s.size = m at *
        generalize tnS (lets s) k = A at *
        generalize lkB s[k] = p at *
        generalize lkB s[m] = q at *
        have HC3 := hid (fun w => l4Turn_c p q ⟨p1, p2⟩ ⟨q1, q2⟩ w)
        obtain ⟨t1, t2⟩ := turn_le p q
        generalize turnOf p q = T at *
        have i1 : (k : Int) < (s.size : Int) := by omega
        have i2 : (0 : Int) ≤ (k : Int) := Int.natCast_nonneg _
        have i3 : (m : Int) < (s.size : Int) := by omega
        have i4 : (0 : Int) ≤ (m : Int) := Int.natCast_nonneg _
        have i5 : IntKind.i64.wrap ((k : Int) + 1) = (k : Int) + 1 := IntWalk.i64_in _ (by omega)
        have i6 : IntKind.i64.wrap (A + T) = A + T := IntWalk.i64_in _ (by omega)
        have i7 : IntKind.i64.wrap (m : Int) = (m : Int) := IntWalk.i64_in _ (by omega)
        have i8 : (m : Int).toNat = m := by omega
        go_wp2_with fail
        go_quiet (first
          | (go_at_call 41; ((with_reducible refine (HC1.out _).mono ?_); rintro e w2 ⟨rfl, rfl⟩; exact ⟨rfl, _, rfl⟩))
          | (go_at_call 41; ((with_reducible refine (HC2.out _).mono ?_); rintro e w2 ⟨rfl, rfl⟩; exact ⟨rfl, _, rfl⟩))
          | (go_at_call 53; refine (HC3.out _).mono ?_; rintro e w2 ⟨rfl, rfl⟩; exact ⟨rfl, _, rfl⟩))
        clear i5 i6 e1 e2 tz
        go_wp2_with fail
        go_roundg (100 - (k + 1))
        case measure => rw [HGG.out]; omega
        case rel => exact ⟨k + 1, _, rfl, by omega, by go_num, vint (by rw [HS.out]), rfl⟩
      · have HK : Hid (k = s.size) := hid (by omega)
        have hlt' : ¬ (k : Int) < (s.size : Int) := by omega
        clear hlt hk
        go_wp2_with fail
        go_ret2
        exact ⟨by rw [← HR.out, HC.out, HK.out]; rfl, below_drewN HB1.out d⟩
end Go.Proofs.YtmojhdnehmjnmaaDoor
