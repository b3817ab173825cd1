/- Contracts: a word walked. -/
import Derived.Test.YtbeacmealippmaaDoorTurtle
import Derived.Test.YtbeacmealippmaaDoorAlive
namespace Go.Proofs.YtbeacmealippmaaDoor
open Go.RowKit

/-- One letter. -/
def step (t : Int × Int × Int) (b : UInt8) : Int × Int × Int :=
  if ((b.toNat : Int) == 70) then (t.1 + dxI t.2.2, t.2.1 + dyI t.2.2, t.2.2) else if ((b.toNat : Int) == 76) then (t.1, t.2.1, (t.2.2 + 1) % 4) else if ((b.toNat : Int) == 82) then (t.1, t.2.1, (t.2.2 + 3) % 4) else t
def tw (t : Int × Int × Int) (l : List UInt8) : Int × Int × Int := l.foldl step t
theorem tw_snoc (t : Int × Int × Int) (l : List UInt8) (b : UInt8) : tw t (l ++ [b]) = step (tw t l) b := by simp [tw]
theorem tw_take (t : Int × Int × Int) {s : ByteArray} {k : Nat} (h : k < s.size) : tw t (s.data.toList.take (k + 1)) = step (tw t (s.data.toList.take k)) s[k] := by rw [take_snoc s k h, tw_snoc]
theorem step_F {t : Int × Int × Int} {b : UInt8} (h : ((b.toNat : Int) == 70) = true) : step t b = (t.1 + dxI t.2.2, t.2.1 + dyI t.2.2, t.2.2) := by unfold step; rw [if_pos h]
theorem step_L {t : Int × Int × Int} {b : UInt8} (h0 : ((b.toNat : Int) == 70) = false) (h : ((b.toNat : Int) == 76) = true) : step t b = (t.1, t.2.1, (t.2.2 + 1) % 4) := by unfold step; rw [if_neg (by rw [h0]; decide), if_pos h]
theorem step_R {t : Int × Int × Int} {b : UInt8} (h0 : ((b.toNat : Int) == 70) = false) (h1 : ((b.toNat : Int) == 76) = false) (h : ((b.toNat : Int) == 82) = true) : step t b = (t.1, t.2.1, (t.2.2 + 3) % 4) := by unfold step; rw [if_neg (by rw [h0]; decide), if_neg (by rw [h1]; decide), if_pos h]
theorem step_N {t : Int × Int × Int} {b : UInt8} (h0 : ((b.toNat : Int) == 70) = false) (h1 : ((b.toNat : Int) == 76) = false) (h : ((b.toNat : Int) == 82) = false) : step t b = t := by unfold step; rw [if_neg (by rw [h0]; decide), if_neg (by rw [h1]; decide), if_neg (by rw [h]; decide)]
theorem dxI_le (l : Int) : -1 ≤ dxI l ∧ dxI l ≤ 1 := by unfold dxI; (repeat' split) <;> omega
theorem dyI_le (l : Int) : -1 ≤ dyI l ∧ dyI l ≤ 1 := by unfold dyI; (repeat' split) <;> omega
theorem step_bd (t : Int × Int × Int) (b : UInt8) (hl : 0 ≤ t.2.2 ∧ t.2.2 < 4) : t.1 - 1 ≤ (step t b).1 ∧ (step t b).1 ≤ t.1 + 1 ∧ t.2.1 - 1 ≤ (step t b).2.1 ∧ (step t b).2.1 ≤ t.2.1 + 1 ∧ 0 ≤ (step t b).2.2 ∧ (step t b).2.2 < 4 := by
  have h1 := dxI_le t.2.2
  have h2 := dyI_le t.2.2
  unfold step; (repeat' split) <;> (try simp only) <;> omega
theorem tw_bd (l : List UInt8) : ∀ (t : Int × Int × Int), 0 ≤ t.2.2 ∧ t.2.2 < 4 → t.1 - l.length ≤ (tw t l).1 ∧ (tw t l).1 ≤ t.1 + l.length ∧ t.2.1 - l.length ≤ (tw t l).2.1 ∧ (tw t l).2.1 ≤ t.2.1 + l.length ∧ 0 ≤ (tw t l).2.2 ∧ (tw t l).2.2 < 4 := by
  induction l with
  | nil => intro t h; simp [tw]; omega
  | cons b l ih =>
    intro t h
    have h1 := step_bd t b h
    have h2 := ih (step t b) ⟨h1.2.2.2.2.1, h1.2.2.2.2.2⟩
    have e : tw t (b :: l) = tw (step t b) l := rfl
    rw [e, List.length_cons]
    omega

/-- A turtle that is not too far away. -/
def TIn (n : Int) (t : Int × Int × Int) : Prop := -n ≤ t.1 ∧ t.1 ≤ n ∧ -n ≤ t.2.1 ∧ t.2.1 ≤ n ∧ 0 ≤ t.2.2 ∧ t.2.2 < 4
theorem tw_in {n m : Int} {t : Int × Int × Int} (h : TIn n t) (l : List UInt8) (hm : n + l.length ≤ m) : TIn m (tw t l) := by
  have := tw_bd l t ⟨h.2.2.2.2.1, h.2.2.2.2.2⟩
  unfold TIn at *; omega

abbrev TV (t : Int × Int × Int) : Value := TurtleV t.1 t.2.1 t.2.2

theorem slot_facts {w w1 : World} {A : Obj} {a b c : Value} {T : TypeId} (hb : Below ((w.alloc A).alloc (.cells #[a, b, c] T)).heap.size ((w.alloc A).alloc (.cells #[a, b, c] T)) w1) :
    w1.cell? ⟨w.heap.size + 1, 0, none⟩ = some a ∧ w1.cell? ⟨w.heap.size + 1, 1, none⟩ = some b ∧ w1.cell? ⟨w.heap.size + 1, 2, none⟩ = some c ∧
    w1.frozen? ⟨w.heap.size + 1, 0, none⟩ = false ∧ w1.frozen? ⟨w.heap.size + 1, 1, none⟩ = false ∧ w1.frozen? ⟨w.heap.size + 1, 2, none⟩ = false ∧ w.heap.size + 1 < w1.heap.size ∧ Below w.heap.size w w1 := by
  have hsz := hb.size
  simp only [World.size_alloc] at hsz
  refine ⟨?_, ?_, ?_, ?_, ?_, ?_, by omega, ?_⟩
  · rw [hb.cell (by simp)]; simp
  · rw [hb.cell (by simp)]; simp
  · rw [hb.cell (by simp)]; simp
  · rw [hb.frozen (by simp)]; simp
  · rw [hb.frozen (by simp)]; simp
  · rw [hb.frozen (by simp)]; simp
  · exact (((Below.refl _ _).alloc (Nat.le_refl _) _).alloc (by simp) _).trans (hb.mono (by simp; omega))


set_option maxHeartbeats 400000 in
theorem after_F (t : Int × Int × Int) (b : UInt8) (hb : ((b.toNat : Int) == 70) = true) (ht : TIn 1000000 t) (w : World) (hd : Dirs w) :
    Calls Tryd.prog 41 #[TV t, .int .u8 (b.toNat : Int)] w fun e w' => e = .returned (TV (step t b)) ∧ Below w.heap.size w w' := by
  obtain ⟨x, y, l⟩ := t
  have HS := hid (step_F (t := (x, y, l)) hb)
  unfold TIn at ht
  simp only at ht
  go_enter Tryd.func41, Tryd.ntmps41
  go_wp2_with fail
  refine (forward_c x y l ⟨ht.1, ht.2.1⟩ ⟨ht.2.2.1, ht.2.2.2.1⟩ ht.2.2.2.2 _ (hd.below (by (repeat (first | exact Below.refl _ _ | refine Below.alloc ?_ (by simp <;> omega) _ | refine Below.setCell ?_ (by simp <;> omega) _ | refine Below.drew ?_ | refine below_drewN ?_ _))))).mono ?_
  rintro e w1 ⟨rfl, hb1⟩
  obtain ⟨k0, k1, k2, z0, z1, z2, zs, hbb⟩ := slot_facts hb1
  have HBB := hid hbb
  clear hb1 hbb hd ht
  obtain ⟨x1, hx1⟩ : ∃ x1, x1 = x + dxI l := ⟨_, rfl⟩
  obtain ⟨y1, hy1⟩ : ∃ y1, y1 = y + dyI l := ⟨_, rfl⟩
  rw [← hx1, ← hy1]
  have HX := hid hx1.symm
  have HY := hid hy1.symm
  clear hx1 hy1
  go_wp2_with fail
  refine bodyPost_ret ?_ rfl ⟨rfl, ?_⟩
  · rw [HS.out]; simp [results, Tryd.results41, go_sem, k0, k1, k2, z0, z1, z2, zs, HX.out, HY.out]
  · exact ((HBB.out.setCell (by simp) _).setCell (by simp) _).setCell (by simp) _

set_option maxHeartbeats 400000 in
theorem after_L (t : Int × Int × Int) (b : UInt8) (h0 : ((b.toNat : Int) == 70) = false) (hb : ((b.toNat : Int) == 76) = true) (ht : TIn 1000000 t) (w : World) (hd : Dirs w) :
    Calls Tryd.prog 41 #[TV t, .int .u8 (b.toNat : Int)] w fun e w' => e = .returned (TV (step t b)) ∧ Below w.heap.size w w' := by
  obtain ⟨x, y, l⟩ := t
  have HS := hid (step_L (t := (x, y, l)) h0 hb)
  unfold TIn at ht
  simp only at ht
  go_enter Tryd.func41, Tryd.ntmps41
  go_wp2_with fail
  refine (turned_c x y l 1 ht.2.2.2.2 (by omega) _).mono ?_
  rintro e w1 ⟨rfl, hb1⟩
  obtain ⟨k0, k1, k2, z0, z1, z2, zs, hbb⟩ := slot_facts hb1
  have HBB := hid hbb
  clear hb1 hbb hd ht
  obtain ⟨l1, hl1⟩ : ∃ l1, l1 = (l + 1) % 4 := ⟨_, rfl⟩
  rw [← hl1]
  have HX := hid hl1.symm
  have HY := HX
  clear hl1
  go_wp2_with fail
  refine bodyPost_ret ?_ rfl ⟨rfl, ?_⟩
  · rw [HS.out]; simp [results, Tryd.results41, go_sem, k0, k1, k2, z0, z1, z2, zs, HX.out, HY.out]
  · exact ((HBB.out.setCell (by simp) _).setCell (by simp) _).setCell (by simp) _

set_option maxHeartbeats 400000 in
theorem after_R (t : Int × Int × Int) (b : UInt8) (h0 : ((b.toNat : Int) == 70) = false) (h1 : ((b.toNat : Int) == 76) = false) (hb : ((b.toNat : Int) == 82) = true) (ht : TIn 1000000 t) (w : World) (hd : Dirs w) :
    Calls Tryd.prog 41 #[TV t, .int .u8 (b.toNat : Int)] w fun e w' => e = .returned (TV (step t b)) ∧ Below w.heap.size w w' := by
  obtain ⟨x, y, l⟩ := t
  have HS := hid (step_R (t := (x, y, l)) h0 h1 hb)
  unfold TIn at ht
  simp only at ht
  go_enter Tryd.func41, Tryd.ntmps41
  go_wp2_with fail
  refine (turned_c x y l 3 ht.2.2.2.2 (by omega) _).mono ?_
  rintro e w1 ⟨rfl, hb1⟩
  obtain ⟨k0, k1, k2, z0, z1, z2, zs, hbb⟩ := slot_facts hb1
  have HBB := hid hbb
  clear hb1 hbb hd ht
  obtain ⟨l1, hl1⟩ : ∃ l1, l1 = (l + 3) % 4 := ⟨_, rfl⟩
  rw [← hl1]
  have HX := hid hl1.symm
  have HY := HX
  clear hl1
  go_wp2_with fail
  refine bodyPost_ret ?_ rfl ⟨rfl, ?_⟩
  · rw [HS.out]; simp [results, Tryd.results41, go_sem, k0, k1, k2, z0, z1, z2, zs, HX.out, HY.out]
  · exact ((HBB.out.setCell (by simp) _).setCell (by simp) _).setCell (by simp) _

set_option maxHeartbeats 400000 in
theorem after_N (t : Int × Int × Int) (b : UInt8) (h0 : ((b.toNat : Int) == 70) = false) (h1 : ((b.toNat : Int) == 76) = false) (hb : ((b.toNat : Int) == 82) = false) (w : World) :
    Calls Tryd.prog 41 #[TV t, .int .u8 (b.toNat : Int)] w fun e w' => e = .returned (TV (step t b)) ∧ Below w.heap.size w w' := by
  obtain ⟨x, y, l⟩ := t
  have HS := hid (step_N (t := (x, y, l)) h0 h1 hb)
  go_enter Tryd.func41, Tryd.ntmps41
  go_wp2_with fail
  refine bodyPost_ret ?_ rfl ⟨rfl, by (repeat (first | exact Below.refl _ _ | refine Below.alloc ?_ (by simp <;> omega) _ | refine Below.setCell ?_ (by simp <;> omega) _ | refine Below.drew ?_ | refine below_drewN ?_ _))⟩
  rw [HS.out]; simp [results, Tryd.results41, go_sem]

theorem after_c (t : Int × Int × Int) (b : UInt8) (ht : TIn 1000000 t) (w : World) (hd : Dirs w) :
    Calls Tryd.prog 41 #[TV t, .int .u8 (b.toNat : Int)] w fun e w' => e = .returned (TV (step t b)) ∧ Below w.heap.size w w' := by
  cases h0 : ((b.toNat : Int) == 70) with
  | true => exact after_F t b h0 ht w hd
  | false =>
    cases h1 : ((b.toNat : Int) == 76) with
    | true => exact after_L t b h0 h1 ht w hd
    | false =>
      cases h2 : ((b.toNat : Int) == 82) with
      | true => exact after_R t b h0 h1 h2 ht w hd
      | false => exact after_N t b h0 h1 h2 w
end Go.Proofs.YtbeacmealippmaaDoor
