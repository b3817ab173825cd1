/- Contract: allThere of the program. -/
import Derived.Test.YtkfmppjljdhogaaDoorWkS
namespace Go.Proofs.YtkfmppjljdhogaaDoor
open Go.RowKit TW
open Go.Maps (Keyed)

/-- The squares round a crossing that have been seen to be there. -/
def PT (D : DataW Unit) (x y : Int) (i j : Nat) : Prop := ∀ a b : Nat, b < 2 → (a < i ∨ (a = i ∧ b < j)) → Maps.has D (klOf (x + (-1 + (a : Int))) (y + (-1 + (b : Int)))) = true
def allB (D : DataW Unit) (x y : Int) : Bool :=
  Maps.has D (klOf (x + (-1 + ((0 : Nat) : Int))) (y + (-1 + ((0 : Nat) : Int)))) && Maps.has D (klOf (x + (-1 + ((0 : Nat) : Int))) (y + (-1 + ((1 : Nat) : Int)))) && Maps.has D (klOf (x + (-1 + ((1 : Nat) : Int))) (y + (-1 + ((0 : Nat) : Int)))) && Maps.has D (klOf (x + (-1 + ((1 : Nat) : Int))) (y + (-1 + ((1 : Nat) : Int))))
theorem PT_zero (D : DataW Unit) (x y : Int) : PT D x y 0 0 := fun a b _ h => by omega
theorem PT_step {D : DataW Unit} {x y : Int} {i j : Nat} (h : PT D x y i j) (hh : Maps.has D (klOf (x + (-1 + (i : Int))) (y + (-1 + (j : Int)))) = true) : PT D x y i (j + 1) := fun a b hb hab => by
  by_cases c : a = i ∧ b = j
  · obtain ⟨rfl, rfl⟩ := c; exact hh
  · exact h a b hb (by omega)
theorem PT_row {D : DataW Unit} {x y : Int} {i : Nat} (h : PT D x y i 2) : PT D x y (i + 1) 0 := fun a b hb hab => h a b hb (by omega)
theorem allB_yes {D : DataW Unit} {x y : Int} (h : PT D x y 2 0) : allB D x y = true := by
  unfold allB
  rw [h 0 0 (by omega) (by omega), h 0 1 (by omega) (by omega), h 1 0 (by omega) (by omega), h 1 1 (by omega) (by omega)]; rfl
theorem allB_no {D : DataW Unit} {x y : Int} {i j : Nat} (hi : i < 2) (hj : j < 2) (h : Maps.has D (klOf (x + (-1 + (i : Int))) (y + (-1 + (j : Int)))) = false) : allB D x y = false := by
  unfold allB
  match i, j, hi, hj, h with
  | 0, 0, _, _, h => rw [h]; simp
  | 0, 1, _, _, h => rw [h]; simp
  | 1, 0, _, _, h => rw [h]; simp
  | 1, 1, _, _, h => rw [h]; simp
theorem zeroU (w : World) : (zeroValue 51).run Tryd.prog w = .ok (.agg #[]) w := by kernel_rfl

set_option maxHeartbeats 4000000 in
theorem allThere_c (M n : Nat) (D : DataW Unit) (x y : Int) (hx : -100 ≤ x ∧ x ≤ 100) (hy : -100 ≤ y ∧ y ≤ 100) (w : World) (ho : w.ownsMap Tryd.prog 50 (unitElem (H := Unit)) M n D) :
    Calls Tryd.prog 40 #[.map (some M), .agg #[.int .i64 x, .int .i64 y]] w fun e w' => e = .returned (.bool (allB D x y)) ∧ Below w.heap.size w w' := by
  obtain ⟨x0, x1⟩ := hx
  obtain ⟨y0, y1⟩ := hy
  have HO := hid (ho.alloc (.cells #[.int .i64 x, .int .i64 y] 50))
  have HX := hid (Box2.made w (.int .i64 x) (.int .i64 y) 50)
  have HB : Hid (Below w.heap.size w (w.alloc (.cells #[.int .i64 x, .int .i64 y] 50))) := hid ((Below.refl _ _).alloc (Nat.le_refl _) _)
  clear ho
  go_enter Tryd.func40, Tryd.ntmps40
  go_wp2_with fail
  go_loopg [5] 10 (fun gg dx wr => ∃ (i : Nat) (DX : Int), gg = 10 - i ∧ Hid (i ≤ 2) ∧ Hid (DX = -1 + (i : Int)) ∧ -1 ≤ DX ∧ DX ≤ 1 ∧ dx = .int .i64 DX ∧ Hid (PT D x y i 0) ∧ Hid (wr.ownsMap Tryd.prog 50 (unitElem (H := Unit)) M n D) ∧ Hid (Box2 w.heap.size (.int .i64 x) (.int .i64 y) wr) ∧ Hid (Below w.heap.size w wr))
  case atStart => exact ⟨0, -1, rfl, hid (by omega), hid rfl, by omega, by omega, rfl, hid (PT_zero D x y), HO, HX, HB⟩
  case round =>
    clear HO HX HB
    obtain ⟨i, DX, hgg, HI, HDX, d0, d1, rfl, HP, HO, HX, HB⟩ := hrel
    have HGG := hid hgg
    clear hgg
    by_cases hlt : DX ≤ 0
    · go_wp2_with fail
      go_loopg [6] 10 (fun gg dy wx => ∃ (j : Nat) (DY : Int), gg = 10 - j ∧ Hid (j ≤ 2) ∧ Hid (DY = -1 + (j : Int)) ∧ -1 ≤ DY ∧ DY ≤ 1 ∧ dy = .int .i64 DY ∧ Hid (PT D x y i j) ∧ Hid (wx.ownsMap Tryd.prog 50 (unitElem (H := Unit)) M n D) ∧ Hid (Box2 w.heap.size (.int .i64 x) (.int .i64 y) wx) ∧ Hid (Below w.heap.size w wx))
      case atStart => exact ⟨0, -1, rfl, hid (by omega), hid rfl, by omega, by omega, rfl, HP, HO, HX, HB⟩
      case round =>
        clear HO HX HB HP
        obtain ⟨j, DY, hgg2, HJ, HDY, e0, e1, rfl, HP, HO, HX, HB⟩ := hrel
        have HGG2 := hid hgg2
        clear hgg2
        by_cases hlt2 : DY ≤ 0
        · obtain ⟨a0, a1, a2, a3, a4⟩ := HX.out
          have hkey := keyPlace (x := x + DX) (y := y + DY) ⟨⟨by omega, by omega⟩, by omega, by omega⟩
          have hsz := HB.out.size
          cases hz : Maps.has D (klOf (x + DX) (y + DY)) with
          | false =>
            have HZ := hid hz
            have HN : Hid (allB D x y = false) := hid (allB_no (i := i) (j := j) (by have := HDX.out; omega) (by have := HDY.out; omega) (by rw [← HDX.out, ← HDY.out]; exact hz))
            clear hz
            go_wp2_with (at_lookup; refine wpList_lookup_own_unit _ rfl _ _ 43 rfl 50 51 lawPlace Tryd.underlying43 (zeroU _) M n D rfl HO.out _ _ rfl hkey ?_; rw [HZ.out])
            go_ret
            exact ⟨by rw [HN.out]; rfl, HB.out.alloc hsz _⟩
          | true =>
            have HZ := hid hz
            have HP2 := hid (PT_step HP.out (by rw [← HDX.out, ← HDY.out]; exact hz))
            clear hz
            go_wp2_with (at_lookup; refine wpList_lookup_own_unit _ rfl _ _ 43 rfl 50 51 lawPlace Tryd.underlying43 (zeroU _) M n D rfl HO.out _ _ rfl hkey ?_; rw [HZ.out])
            go_roundg (10 - (j + 1))
            case measure => rw [HGG2.out]; have := HDY.out; omega
            case rel => exact ⟨j + 1, DY + 1, rfl, hid (by have := HDY.out; omega), hid (by rw [HDY.out]; omega), by omega, by omega, rfl, HP2, hid (HO.out.alloc _), hid (HX.out.alloc _), hid (HB.out.alloc hsz _)⟩
        · have HJe : Hid (j = 2) := hid (by have := HDY.out; have := HJ.out; omega)
          have HP2 := hid (PT_row (D := D) (x := x) (y := y) (i := i) (by have := HP.out; rw [HJe.out] at this; exact this))
          go_wp2_with fail
          go_roundg (10 - (i + 1))
          case measure => rw [HGG.out]; have := HDX.out; omega
          case rel => exact ⟨i + 1, DX + 1, rfl, hid (by have := HDX.out; omega), hid (by rw [HDX.out]; omega), by omega, by omega, rfl, HP2, HO, HX, HB⟩
    · have HR : Hid (allB D x y = true) := hid (allB_yes (by have := HP.out; rw [show i = 2 from by have := HDX.out; have := HI.out; omega] at this; exact this))
      go_wp2_with fail
      go_ret
      exact ⟨by rw [HR.out]; rfl, HB.out⟩
end Go.Proofs.YtkfmppjljdhogaaDoor
