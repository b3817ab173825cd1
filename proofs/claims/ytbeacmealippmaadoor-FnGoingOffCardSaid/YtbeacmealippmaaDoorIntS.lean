/- Contracts: equal lists of numbers, marks, and marks held. -/
import Derived.Test.YtbeacmealippmaaDoorClosed
import Derived.Deep.QuietTactic
import Derived.BigQuiet
namespace Go.Proofs.YtbeacmealippmaaDoor
open Go.RowKit TW

/-- What a slice of the call's own looks like. -/
theorem Owns.view {B : Nat} {w : World} {v : Value} {L : List Int} (h : Owns B w v L) : ∃ (ad : Option Addr) (cap : Nat), v = .slice ad L.length cap ∧
    (0 < L.length → ∃ g, ad = some ⟨g, 0, none⟩ ∧ v.ownBlock = some g ∧ B ≤ g ∧ g < w.heap.size ∧ ∀ i, i < L.length → w.cell? ⟨g, i, none⟩ = some (.int .i64 (L[i]?.getD 0)) ∧ w.frozen? ⟨g, i, none⟩ = false) := by
  rcases h.2 with ⟨hv, hx⟩ | ⟨g, cap, cur, hv, hb, hg, hn, hm, hs, ht⟩
  · refine ⟨none, 0, ?_, fun h0 => ?_⟩
    · have : L = [] := by simpa using hx
      rw [hv, this]; rfl
    · have : L = [] := by simpa using hx
      rw [this] at h0; simp at h0
  · refine ⟨some ⟨g, 0, none⟩, cap, hv, fun h0 => ⟨g, rfl, by rw [hv]; rfl, hb, (Array.getElem?_eq_some_iff.1 hg).1, fun i hi => ⟨?_, ?_⟩⟩⟩
    · have hx : (L.map (Value.int .i64))[i]? = some (.int .i64 (L[i]?.getD 0)) := by
        rw [List.getElem?_map, List.getElem?_eq_getElem hi]; rfl
      have := World.ownsRow.cells h (g := g) (by rw [hv]; rfl) i _ hx
      have hadd : (⟨g, 0, none⟩ : Addr).add i = ⟨g, i, none⟩ := by unfold Addr.add; split <;> simp_all
      rw [hadd] at this; exact this
    · exact Lib.frozen_of_heap hg i

set_option maxHeartbeats 1000000 in
theorem eqIntS_c (Ba Bb : Nat) (va vb : Value) (L : List Int) (w : World) (ha : Owns Ba w va L) (hb : Owns Bb w vb L) (hl : L.length ≤ 600) :
    Calls Tryd.prog 17 #[va, vb] w fun e w' => e = .returned (.bool true) ∧ ∃ d, w.drewN d = w' := by
  obtain ⟨a1, c1, rfl, h1⟩ := ha.view
  obtain ⟨a2, c2, rfl, h2⟩ := hb.view
  have H1 := hid h1
  have H2 := hid h2
  clear h1 h2 ha hb
  generalize hn : L.length = n at *
  go_enter Tryd.func17, Tryd.ntmps17
  go_wp2_with fail
  go_loopw [5] (fun i wr => ∃ (k d : Nat), k ≤ n ∧ i = .int .i64 k ∧ wr = w.drewN d) (fun i _ => n - (intOf i).toNat)
  case atStart => exact ⟨0, 0, Nat.zero_le _, rfl, rfl⟩
  case round =>
    obtain ⟨k, d, hk, rfl, rfl⟩ := hrel
    by_cases hlt : k < n
    · obtain ⟨g1, rfl, _, _, _, hc1⟩ := H1.out (by omega)
      obtain ⟨g2, rfl, _, _, _, hc2⟩ := H2.out (by omega)
      have q1 := (hc1 k hlt).1
      have q2 := (hc2 k hlt).1
      have i0 : (0 : Int) ≤ (k : Int) := Int.natCast_nonneg _
      have i1 : (k : Int) < (n : Int) := by omega
      clear hc1 hc2
      go_wp2_with fail
      go_quiet (fail)
      go_wp2_with fail
      go_roundw
      case rel => exact ⟨k + 1, _, by omega, by go_num, rfl⟩
      case measure => simp [intOf]; omega
    · obtain rfl : k = n := by omega
      go_wp2_with fail
      go_ret
      exact ⟨rfl, d, rfl⟩

/-- The marks k, k + 1, .. -/
def marks (k : Int) (n : Nat) : List Int := (List.range n).map fun i : Nat => k + (i : Int)
theorem marks_len (k : Int) (n : Nat) : (marks k n).length = n := by simp [marks]
theorem marks_at (k : Int) {n i : Nat} (h : i < n) : (marks k n)[i]?.getD 0 = k + i := by simp [marks, h]

set_option maxHeartbeats 1000000 in
theorem heldIntS_c (B : Nat) (v : Value) (n : Nat) (w : World) (h : Owns B w v (marks 1 n)) (hl : n ≤ 600) :
    Calls Tryd.prog 19 #[v, .int .i64 1] w fun e w' => e = .returned (.int .i64 (1 + n)) ∧ w = w' := by
  obtain ⟨a1, c1, rfl, h1⟩ := h.view
  rw [marks_len] at h1 ⊢
  have H1 := hid h1
  clear h1 h
  go_enter Tryd.func19, Tryd.ntmps19
  go_wp2_with fail
  go_loop [1, 5] (fun m i => ∃ k : Nat, k ≤ n ∧ i = .int .i64 k ∧ m = .int .i64 (1 + (k : Int))) (fun _ i => n - (intOf i).toNat)
  case atStart => exact ⟨0, Nat.zero_le _, rfl, rfl⟩
  case round =>
    obtain ⟨k, hk, rfl, rfl⟩ := hrel
    by_cases hlt : k < n
    · obtain ⟨g1, rfl, _, _, _, hc1⟩ := H1.out (by omega)
      have q1 := (hc1 k hlt).1
      rw [marks_at 1 hlt] at q1
      clear hc1
      go_wp2_with fail
      go_round
      case rel => exact ⟨k + 1, by omega, by go_num, by go_num⟩
      case measure => simp [intOf]; omega
    · obtain rfl : k = n := by omega
      go_wp2_with fail
      go_ret
      exact ⟨rfl, rfl⟩
end Go.Proofs.YtbeacmealippmaaDoor
