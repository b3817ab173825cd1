/- Contract: l20Open. -/
import Derived.Test.YtbeacmealippmaaDoorPick
import Derived.OpenShut
namespace Go.Proofs.YtbeacmealippmaaDoor
open Go.RowKit

/-- What l20Open leaves: a reader in a new block, at its beginning. -/
def Opened (w : World) (e : Ending) (w' : World) : Prop :=
  ∃ rb : Nat, e = .returned (.pointer (some ⟨rb, 0, none⟩)) ∧ w.heap.size ≤ rb ∧ Rd w' rb 0 ∧ Below w.heap.size w w'

theorem opened_mk {w : World} {a : Option Addr} {len cap : Nat} {zs : List Int} {t : TypeId} (hl : len ≤ 2000)
    (hc : len = 0 ∨ ∃ b off, a = some ⟨b, off, none⟩ ∧ b < w.heap.size ∧ (∀ i : Nat, i < len → w.cell? ⟨b, off + i, none⟩ = some (.int .u8 (zs[i]?.getD 0))) ∧ ∀ i : Nat, 0 ≤ zs[i]?.getD 0 ∧ zs[i]?.getD 0 ≤ 255) :
    Opened w (.returned (.pointer (some ⟨w.heap.size, 0, none⟩))) (w.alloc (.cells #[.slice a len cap, .int .i64 0] t)) := by
  refine ⟨w.heap.size, rfl, Nat.le_refl _, ⟨a, len, cap, zs, hl, ?_, ?_, ?_, ?_⟩, (Below.refl _ _).alloc (Nat.le_refl _) _⟩
  · rcases hc with hc | ⟨b, off, ha, hlt, hcell, hz⟩
    · exact Or.inl hc
    · exact Or.inr ⟨b, off, ha, hlt, fun i hi => (World.cell?_of_block (w := w) (Below.heap_alloc w _ b hlt)).trans (hcell i hi), hz⟩
  · simp [World.cell?_alloc_new]
  · simp [World.cell?_alloc_new]
  · exact World.frozen?_alloc_new _ _ _ _

theorem open_c (a : Option Addr) (len cap : Nat) (zs : List Int) (w : World) (h : IsRow .u8 w a len cap zs) :
    Calls Tryd.prog 30 #[.slice a len cap] w (Opened w) := by
  rcases h with ⟨rfl, rfl, rfl, rfl⟩ | ⟨⟨b, off, spot⟩, rfl, hl, hm, hz, hcell, hwz⟩
  · have HM := hid (opened_mk (w := w) (a := none) (len := 0) (cap := 0) (zs := []) (t := 58) (by omega) (Or.inl rfl))
    go_enter Tryd.func30, Tryd.ntmps30
    go_wp2
    go_ret
    exact HM.out
  · have hr : ∀ i : Nat, 0 ≤ zs[i]?.getD 0 ∧ zs[i]?.getD 0 ≤ 255 := range_u8 hwz
    unfold maxLen at hm
    by_cases h0 : len = 0
    · subst h0
      have HM := hid (opened_mk (w := w) (a := some ⟨b, off, spot⟩) (len := 0) (cap := cap) (zs := []) (t := 58) (by omega) (Or.inl rfl))
      clear hcell hwz hr
      go_enter Tryd.func30, Tryd.ntmps30
      go_wp2
      go_ret
      exact HM.out
    · have hspot : spot = none := by simpa [Addr.add] using World.cell?_spot (hcell 0 (by omega))
      subst hspot
      have hb : b < w.heap.size := World.block_lt_of_cell? w _ (hcell 0 (by omega))
      have hcs : ∀ i : Nat, i < zs.length → w.cell? ⟨b, off + i, none⟩ = some (.int .u8 (zs[i]?.getD 0)) := fun i hi => by
        have := hcell i hi
        have e : (⟨b, off, none⟩ : Addr).add i = ⟨b, off + i, none⟩ := by cases i <;> rfl
        rw [e] at this
        simpa [List.getD] using this
      by_cases hbig : 2000 < len
      · have HM := hid (opened_mk (w := w) (a := some ⟨b, off, none⟩) (len := 2000) (cap := cap) (zs := zs) (t := 58) (by omega) (Or.inr ⟨b, off, rfl, hb, fun i hi => hcs i (by omega), hr⟩))
        clear hcell hwz hr hcs
        have h1 : ¬ cap < 2000 := by omega
        have h2 : 2000 ≤ cap := by omega
        go_enter Tryd.func30, Tryd.ntmps30
        go_wp2
        go_ret
        exact HM.out
      · have HM := hid (opened_mk (w := w) (a := some ⟨b, off, none⟩) (len := len) (cap := cap) (zs := zs) (t := 58) (by omega) (Or.inr ⟨b, off, rfl, hb, fun i hi => hcs i (by omega), hr⟩))
        clear hcell hwz hr hcs
        go_enter Tryd.func30, Tryd.ntmps30
        go_wp2
        go_ret
        exact HM.out
end Go.Proofs.YtbeacmealippmaaDoor
