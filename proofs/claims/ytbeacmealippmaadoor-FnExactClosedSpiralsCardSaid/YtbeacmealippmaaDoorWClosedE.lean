/- The walk of FnExactClosedSpirals. -/
import Derived.Test.YtbeacmealippmaaDoorClosed2
import Derived.Test.YtbeacmealippmaaDoorIntS2
namespace Go.Proofs.YtbeacmealippmaaDoor
open Go.RowKit TW

theorem Owns.drewN {B : Nat} {w : World} {v : Value} {L : List Int} (h : Owns B w v L) (d : Nat) : Owns B (w.drewN d) v L := h.behind (below_drewN (Below.refl _ _) _)
theorem Owns.apart {B B' : Nat} {w w' : World} {v u : Value} {L M : List Int} (h : Owns B w v L) (hu : Owns B' w u M) (hv : ∀ k, v.ownBlock = some k → k < B') (hg : w.grownBy w' u.ownBlock) : Owns B w' v L := by
  refine World.ownsRow.kept h hg ?_
  cases e : v.ownBlock with
  | none => exact .inl rfl
  | some k =>
    refine .inr (fun c => ?_)
    have h1 := hv k e
    have h2 := (hu.lt k c.symm).1
    omega
theorem clL_le (o : Int) : (clL' o).length ≤ 600 := by
  unfold clL'
  split
  · rename_i h
    simp only [Bool.and_eq_true, decide_eq_true_eq] at h
    have h1 := clTo_le o.toNat (2 ^ o.toNat)
    have h2 := (pow_512 o.toNat (by omega)).1
    omega
  · exact Nat.zero_le _

set_option maxHeartbeats 1000000 in
theorem walk_FnExactClosedSpirals (o : Int) (_ : (Lit.int .i64 o).wf = true) (w : World) (hd : Dirs w) :
    Calls Tryd.prog 6 #[.int .i64 o] w fun e w' => e = .returned (.bool true) ∧ Below w.heap.size w w' := by
  have HD := hid hd
  have hl := clL_le o
  clear hd
  go_enter Tryd.func6, Tryd.ntmps6
  go_wp2_with fail
  refine (specClosed_c o _).mono ?_
  rintro e w1 ⟨v0, rfl, hO, hB⟩
  have O0 := hid hO
  have HB := hid hB
  clear hO hB
  go_wp2_with fail
  refine (implClosed_c o _ (HD.out.below HB.out)).mono ?_
  rintro e w2 ⟨v1, rfl, hO, hB⟩
  have V0 : Hid (∀ k, v0.ownBlock = some k → k < w1.heap.size) := fun k hk => (O0.out.lt k hk).2
  have O1 := hid hO
  have O0 := hid (O0.out.behind hB)
  have hs1 : w.heap.size ≤ w1.heap.size := HB.out.size
  have HB := hid (HB.out.trans (hB.mono HB.out.size))
  have hs2 : w1.heap.size ≤ w2.heap.size := hB.size
  clear hO hB
  go_wp2_with fail
  refine (eqIntS_c _ _ v1 v0 (clL' o) _ O1.out O0.out hl).mono ?_
  rintro e w3 ⟨rfl, d, rfl⟩
  go_wp2_with fail
  refine (markIntS_c _ v1 (clL' o) _ (O1.out.drewN d) hl).mono ?_
  rintro e w4 ⟨rfl, hO, hG⟩
  have O0 := hid ((O0.out.drewN d).apart (O1.out.drewN d) V0.out hG)
  have HB := hid ((below_drewN HB.out d).grown hG (by simpa using Nat.le_trans hs1 hs2) (fun k hk => Nat.le_trans hs1 (O1.out.lt k hk).1))
  have O1 := hid hO
  clear hO hG
  generalize hn : (clL' o).length = n at *
  have HN := hid hn
  clear hn
  go_wp2_with fail
  refine (heldIntS_c _ v1 n _ O1.out hl).mono ?_
  rintro e w5 ⟨rfl, rfl⟩
  go_wp2_with fail
  refine (implClosed_c o _ (HD.out.below HB.out)).mono ?_
  rintro e w5 ⟨v2, rfl, hO, hB⟩
  have O2 := hid hO
  have O0 := hid (O0.out.behind hB)
  have O1 := hid (O1.out.behind hB)
  have HB := hid (HB.out.trans (hB.mono HB.out.size))
  clear hO hB
  go_wp2_with fail
  refine (eqIntS_c _ _ v2 v0 (clL' o) _ O2.out O0.out (by rw [HN.out]; exact hl)).mono ?_
  rintro e w6 ⟨rfl, d2, rfl⟩
  go_wp2_with fail
  refine (heldIntS_c _ v1 n _ (O1.out.drewN d2) hl).mono ?_
  rintro e w7 ⟨rfl, rfl⟩
  go_wp2_with fail
  go_ret
  exact ⟨rfl, below_drewN HB.out d2⟩
end Go.Proofs.YtbeacmealippmaaDoor
