/- Contracts: sameInts, hasInt, ascend of the laws, at slices of one's own. -/
import Derived.Test.YtkcgoaidpeoniaaDoorIntS
import Derived.Deep.LoopGhost
namespace Go.Proofs.YtkcgoaidpeoniaaDoor
open Go.RowKit TW

set_option maxHeartbeats 1000000 in
theorem sameInts_c (Ba Bb : Nat) (va vb : Value) (L : List Int) (w : World) (ha : Owns Ba w va L) (hb : Owns Bb w vb L) (hl : L.length ≤ 600) :
    Calls Tryd.prog 6 #[va, vb] w fun e w' => e = .returned (.bool true) ∧ ∃ d, w.drewN d = w' := by
  obtain ⟨a1, c1, rfl, h1⟩ := ha.view
  obtain ⟨a2, c2, rfl, h2⟩ := hb.view
  have H1 := hid h1
  have H2 := hid h2
  clear h1 h2 ha hb
  generalize hn : L.length = n at *
  go_enter Tryd.func6, Tryd.ntmps6
  go_wp2_with fail
  go_loopw [5] (fun i wr => ∃ (k d : Nat), k ≤ n ∧ i = .int .i64 k ∧ wr = w.drewN d) (fun i _ => n - (intOf i).toNat)
  case atStart => exact ⟨0, 0, Nat.zero_le _, rfl, rfl⟩
  case round =>
    obtain ⟨k, d, hk, rfl, rfl⟩ := hrel
    by_cases hlt : k < n
    · obtain ⟨g1, rfl, _, _, _, hc1⟩ := H1.out (by omega)
      obtain ⟨g2, rfl, _, _, _, hc2⟩ := H2.out (by omega)
      have q1 := (hc1 k hlt).1
      have q2 := (hc2 k hlt).1
      have i0 : (0 : Int) ≤ (k : Int) := Int.natCast_nonneg _
      have i1 : (k : Int) < (n : Int) := by omega
      clear hc1 hc2
      go_wp2_with fail
      go_quiet (fail)
      go_wp2_with fail
      go_roundw
      case rel => exact ⟨k + 1, _, by omega, by go_num, rfl⟩
      case measure => simp [intOf]; omega
    · obtain rfl : k = n := by omega
      go_wp2_with fail
      go_ret
      exact ⟨rfl, d, rfl⟩

set_option maxHeartbeats 1000000 in
theorem hasInt_c (B : Nat) (v : Value) (L : List Int) (z : Int) (w : World) (h : Owns B w v L) (hl : L.length ≤ 600) (hz : z ∈ L) :
    Calls Tryd.prog 10 #[v, .int .i64 z] w fun e w' => e = .returned (.bool true) ∧ w = w' := by
  obtain ⟨a1, c1, rfl, h1⟩ := h.view
  have H1 := hid h1
  obtain ⟨p, hp, hpz⟩ := List.getElem_of_mem hz
  have HP : Hid (L[p]?.getD 0 = z) := hid (by rw [List.getElem?_eq_getElem hp, ← hpz]; rfl)
  clear h1 h hz hpz
  generalize hn : L.length = n at *
  go_enter Tryd.func10, Tryd.ntmps10
  go_wp2_with fail
  go_loop [5] (fun i => ∃ k : Nat, k ≤ p ∧ i = .int .i64 k) (fun i => n - (intOf i).toNat)
  case atStart => exact ⟨0, Nat.zero_le _, rfl⟩
  case round =>
    obtain ⟨k, hk, rfl⟩ := hrel
    have hlt : k < n := by omega
    obtain ⟨g1, rfl, _, _, _, hc1⟩ := H1.out (by omega)
    have q1 := (hc1 k hlt).1
    have i0 : (0 : Int) ≤ (k : Int) := Int.natCast_nonneg _
    have i1 : (k : Int) < (n : Int) := by omega
    clear hc1
    have hu : k = p → L[k]?.getD 0 = z := fun e => by rw [e]; exact HP.out
    generalize L[k]?.getD 0 = u at *
    have HU := hid hu
    clear hu
    cases ht : (u == z) with
    | true =>
      go_wp2_with fail
      go_ret
      exact ⟨rfl, rfl⟩
    | false =>
      have hkp : k ≠ p := fun e => by rw [HU.out e] at ht; simp at ht
      go_wp2_with fail
      go_round
      case rel => exact ⟨k + 1, by omega, by go_num⟩
      case measure => simp [intOf]; omega

/-- Each is less than the next one. -/
def Asc (L : List Int) : Prop := ∀ k, k + 1 < L.length → L[k]?.getD 0 < L[k + 1]?.getD 0

set_option maxHeartbeats 1000000 in
theorem ascend_c (B : Nat) (v : Value) (L : List Int) (w : World) (h : Owns B w v L) (hl : L.length ≤ 600) (ha : Asc L) :
    Calls Tryd.prog 11 #[v] w fun e w' => e = .returned (.bool true) ∧ ∃ d, w.drewN d = w' := by
  obtain ⟨a1, c1, rfl, h1⟩ := h.view
  have H1 := hid h1
  have HA := hid ha
  unfold Asc at HA
  clear h1 h ha
  generalize hn : L.length = n at *
  go_enter Tryd.func11, Tryd.ntmps11
  go_wp2_with fail
  go_loopw [3] (fun i wr => ∃ (k d : Nat), k ≤ n ∧ i = .int .i64 ((k : Int) + 1) ∧ wr = w.drewN d) (fun i _ => n + 1 - (intOf i).toNat)
  case atStart => exact ⟨0, 0, Nat.zero_le _, rfl, rfl⟩
  case round =>
    obtain ⟨k, d, hk, rfl, rfl⟩ := hrel
    by_cases hlt : k + 1 < n
    · obtain ⟨g1, rfl, _, _, _, hc1⟩ := H1.out (by omega)
      have q1 := (hc1 k (by omega)).1
      have q2 := (hc1 (k + 1) hlt).1
      have hlt2 := HA.out k hlt
      have i0 : (0 : Int) ≤ (k : Int) := Int.natCast_nonneg _
      have i1 : (k : Int) + 1 < (n : Int) := by omega
      clear hc1
      generalize L[k]?.getD 0 = u at *
      generalize L[k + 1]?.getD 0 = u' at *
      go_wp2_with fail
      go_quiet (fail)
      go_wp2_with fail
      go_roundw
      case rel => exact ⟨k + 1, _, by omega, by go_num, rfl⟩
      case measure => simp [intOf]; omega
    · have i1 : ¬ (k : Int) + 1 < (n : Int) := by omega
      go_wp2_with fail
      go_ret
      exact ⟨rfl, d, rfl⟩
end Go.Proofs.YtkcgoaidpeoniaaDoor
