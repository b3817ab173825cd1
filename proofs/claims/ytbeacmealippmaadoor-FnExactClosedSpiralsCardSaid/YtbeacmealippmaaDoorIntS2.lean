/- Contract: marks laid. -/
import Derived.Test.YtbeacmealippmaaDoorIntS
import Derived.Laws.OwnMore
namespace Go.Proofs.YtbeacmealippmaaDoor
open Go.RowKit TW

/-- The first k are marks. -/
def mix (L : List Int) (k : Nat) : List Int := marks 1 k ++ L.drop k
theorem mix_len {L : List Int} {k : Nat} (h : k ≤ L.length) : (mix L k).length = L.length := by unfold mix; rw [List.length_append, marks_len, List.length_drop]; omega
theorem mix_zero (L : List Int) : mix L 0 = L := rfl
theorem mix_all (L : List Int) : mix L L.length = marks 1 L.length := by unfold mix; simp
theorem marks_succ (k : Nat) : marks 1 (k + 1) = marks 1 k ++ [1 + (k : Int)] := by unfold marks; rw [List.range_succ, List.map_append]; rfl
theorem mix_set {L : List Int} {k : Nat} (h : k < L.length) : (mix L k).set k (1 + (k : Int)) = mix L (k + 1) := by
  unfold mix
  rw [marks_succ, List.append_assoc, List.set_append_right _ _ (by rw [marks_len]; exact Nat.le_refl _), marks_len, Nat.sub_self, List.drop_eq_getElem_cons h]
  rfl

set_option maxHeartbeats 1000000 in
theorem markIntS_c (B : Nat) (v : Value) (L : List Int) (w : World) (h : Owns B w v L) (hl : L.length ≤ 600) :
    Calls Tryd.prog 18 #[v, .int .i64 1] w fun e w' => e = .returned (.int .i64 (1 + L.length)) ∧ Owns B w' v (marks 1 L.length) ∧ w.grownBy w' v.ownBlock := by
  have h0 := h
  obtain ⟨a1, c1, rfl, h1⟩ := h.view
  have H1 := hid h1
  have H0 : Hid (w.ownsRow B 3 1 (.slice a1 L.length c1) L.length ((mix L 0).map (Value.int .i64))) := h0
  clear h1 h h0
  go_enter Tryd.func18, Tryd.ntmps18
  go_wp2_with fail
  go_loopw [1, 5] (fun m i wr => ∃ k : Nat, k ≤ L.length ∧ i = .int .i64 k ∧ m = .int .i64 (1 + (k : Int)) ∧ wr.ownsRow B 3 1 (.slice a1 L.length c1) L.length ((mix L k).map (Value.int .i64)) ∧ w.grownBy wr (Value.slice a1 L.length c1).ownBlock) (fun _ i _ => L.length - (intOf i).toNat)
  case atStart => exact ⟨0, Nat.zero_le _, rfl, rfl, H0.out, World.grownBy.refl w _⟩
  case round =>
    obtain ⟨k, hk, rfl, rfl, hO, hG⟩ := hrel
    by_cases hlt : k < L.length
    · obtain ⟨g1, rfl, _, _, _, _⟩ := H1.out (by omega)
      have q1 := World.ownsRow.cellAt hO k (by omega)
      have q2 := World.ownsRow.frozenAt hO k
      rw [List.getElem?_map, List.getElem?_eq_getElem (by rw [mix_len (by omega)]; exact hlt)] at q1
      have q1' : wr.cell? ⟨g1, k, none⟩ = some (.int .i64 ((mix L k)[k]'(by rw [mix_len (by omega)]; exact hlt))) := q1
      have HS := World.ownsRow.stored hO k (.int .i64 (1 + (k : Int)))
      have HM : (((mix L k).map (Value.int .i64)).set k (.int .i64 (1 + (k : Int)))) = (mix L (k + 1)).map (Value.int .i64) := by rw [← mix_set hlt, List.map_set]
      rw [HM] at HS
      have HS := hid HS
      have HG := hid hG
      clear q1 hO hG HM
      generalize (mix L k)[k]'(by rw [mix_len (by omega)]; exact hlt) = z at q1'
      go_wp2_with fail
      go_roundw
      case rel => exact ⟨k + 1, by omega, by go_num, by go_num, HS.out.1, HG.out.trans HS.out.2⟩
      case measure => simp [intOf]; omega
    · obtain rfl : k = L.length := by omega
      have HO := hid hO
      have HG := hid hG
      clear hO hG
      go_wp2_with fail
      go_ret
      exact ⟨rfl, by unfold Owns; rw [marks_len, ← mix_all]; exact HO.out, HG.out⟩
end Go.Proofs.YtbeacmealippmaaDoor
