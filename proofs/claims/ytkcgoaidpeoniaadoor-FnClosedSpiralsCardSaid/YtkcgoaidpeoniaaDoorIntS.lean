/- Contracts: equal lists of numbers, marks, and marks held. -/
import Derived.Test.YtkcgoaidpeoniaaDoorClosed
import Derived.Deep.QuietTactic
import Derived.BigQuiet
namespace Go.Proofs.YtkcgoaidpeoniaaDoor
open Go.RowKit TW

/-- What a slice of the call's own looks like. -/
theorem Owns.view {B : Nat} {w : World} {v : Value} {L : List Int} (h : Owns B w v L) : ∃ (ad : Option Addr) (cap : Nat), v = .slice ad L.length cap ∧
    (0 < L.length → ∃ g, ad = some ⟨g, 0, none⟩ ∧ v.ownBlock = some g ∧ B ≤ g ∧ g < w.heap.size ∧ ∀ i, i < L.length → w.cell? ⟨g, i, none⟩ = some (.int .i64 (L[i]?.getD 0)) ∧ w.frozen? ⟨g, i, none⟩ = false) := by
  rcases h.2 with ⟨hv, hx⟩ | ⟨g, cap, cur, hv, hb, hg, hn, hm, hs, ht⟩
  · refine ⟨none, 0, ?_, fun h0 => ?_⟩
    · have : L = [] := by simpa using hx
      rw [hv, this]; rfl
    · have : L = [] := by simpa using hx
      rw [this] at h0; simp at h0
  · refine ⟨some ⟨g, 0, none⟩, cap, hv, fun h0 => ⟨g, rfl, by rw [hv]; rfl, hb, (Array.getElem?_eq_some_iff.1 hg).1, fun i hi => ⟨?_, ?_⟩⟩⟩
    · have hx : (L.map (Value.int .i64))[i]? = some (.int .i64 (L[i]?.getD 0)) := by
        rw [List.getElem?_map, List.getElem?_eq_getElem hi]; rfl
      have := World.ownsRow.cells h (g := g) (by rw [hv]; rfl) i _ hx
      have hadd : (⟨g, 0, none⟩ : Addr).add i = ⟨g, i, none⟩ := by unfold Addr.add; split <;> simp_all
      rw [hadd] at this; exact this
    · exact Lib.frozen_of_heap hg i

/-- The marks k, k + 1, .. -/
def marks (k : Int) (n : Nat) : List Int := (List.range n).map fun i : Nat => k + (i : Int)
theorem marks_len (k : Int) (n : Nat) : (marks k n).length = n := by simp [marks]
theorem marks_at (k : Int) {n i : Nat} (h : i < n) : (marks k n)[i]?.getD 0 = k + i := by simp [marks, h]

end Go.Proofs.YtkcgoaidpeoniaaDoor
