/- The package variable 'directions': what its cells hold where the row's list is met. -/
import Derived.Test.YtbeacmealippmaaDoorKit
import Derived.Lib.LaidTab
import Derived.OpenShut
import Derived.WalkSmall
import Derived.ChangeVars
namespace Go.Proofs.YtbeacmealippmaaDoor
open Go.RowKit

theorem gDir : Tryd.prog.globalNamed "loop.example/turtlewalks/impl.directions" = some 0 := by kernel_rfl
theorem gDirType : (Tryd.prog.globals[0]?).map (·.type) = some 65 := by kernel_rfl
theorem dCells4 : Tryd.prog.cellsOf 65 = 8 := by kernel_rfl
theorem dCells2 : Tryd.prog.cellsOf 64 = 2 := by kernel_rfl
theorem dCells1 : Tryd.prog.cellsOf 3 = 1 := by kernel_rfl

/-- The eight numbers. -/
def dirNums : Array Value := #[.int .i64 1, .int .i64 0, .int .i64 0, .int .i64 1, .int .i64 (-1), .int .i64 0, .int .i64 0, .int .i64 (-1)]

/-- The variable holds its eight numbers. -/
def Dirs (w : World) : Prop := w.var? Tryd.prog "loop.example/turtlewalks/impl.directions" = some dirNums

theorem eight_cells : ∀ (l : List Value) (a b c d e f g h : Value), l.length = 8 → (l.drop (0 * 2)).take 2 = [a, b] → (l.drop (1 * 2)).take 2 = [c, d] → (l.drop (2 * 2)).take 2 = [e, f] → (l.drop (3 * 2)).take 2 = [g, h] → l = [a, b, c, d, e, f, g, h] := by
  intro l a b c d e f g h hl
  match l, hl with
  | [x0, x1, x2, x3, x4, x5, x6, x7], _ =>
    intro h1 h2 h3 h4
    simp at h1 h2 h3 h4
    simp [h1, h2, h3, h4]

theorem dirs_of_laid {W : World} (h : laidMet Tryd.prog [("loop.example/turtlewalks/impl.directions", Rows.laid_loop_example_turtlewalks_impl_directions)] W) : Dirs W := by
  obtain ⟨ps, ⟨g', t', cs, fuel, p, q, hg', ht', hvar, hd, _, _⟩, _⟩ := h
  obtain rfl := Option.some.inj (gDir.symm.trans hg')
  obtain rfl := Option.some.inj (gDirType.symm.trans ht')
  obtain ⟨xs, m, rfl, hx, hl, hn, hi⟩ := DataW.trod_array Tryd.underlying65 hd
  have hxs : xs.map (·.1) = [Lib.tabData .i64 [1, 0], Lib.tabData .i64 [0, 1], Lib.tabData .i64 [-1, 0], Lib.tabData .i64 [0, -1]] := by
    have := congrArg Prod.fst hx
    simp [Rows.laid_loop_example_turtlewalks_impl_directions] at this
    rw [← this]; rfl
  rw [dCells2] at hi
  have one : ∀ (i : Nat) (a b : Int), i < 4 → (xs.map (·.1))[i]? = some (Lib.tabData .i64 [a, b]) → (cs.toList.drop (i * 2)).take 2 = [Value.int .i64 a, Value.int .i64 b] := by
    intro i a b h4 hx4
    have h5 := hi i h4
    rw [List.getElem?_map] at hx4
    obtain ⟨y, hy, hy1⟩ := Option.map_eq_some_iff.1 hx4
    rw [hy] at h5
    obtain ⟨y1, y2⟩ := y
    simp only at hy1
    subst hy1
    exact Lib.cells_of_tab Tryd.underlying64 Tryd.underlying3 dCells1 dCells2 h5
  have e := eight_cells cs.toList _ _ _ _ _ _ _ _ (by rw [dCells4] at hl; exact hl) (one 0 1 0 (by decide) (by rw [hxs]; rfl)) (one 1 0 1 (by decide) (by rw [hxs]; rfl)) (one 2 (-1) 0 (by decide) (by rw [hxs]; rfl)) (one 3 0 (-1) (by decide) (by rw [hxs]; rfl))
  unfold Dirs
  rw [hvar]
  congr 1
  apply Array.toList_inj.1
  rw [e]; rfl

theorem Dirs.cells {w : World} (h : Dirs w) : w.cell? ⟨0, 0, none⟩ = some (.int .i64 1) ∧ w.cell? ⟨0, 1, none⟩ = some (.int .i64 0) ∧
    w.cell? ⟨0, 2, none⟩ = some (.int .i64 0) ∧ w.cell? ⟨0, 3, none⟩ = some (.int .i64 1) ∧
    w.cell? ⟨0, 4, none⟩ = some (.int .i64 (-1)) ∧ w.cell? ⟨0, 5, none⟩ = some (.int .i64 0) ∧
    w.cell? ⟨0, 6, none⟩ = some (.int .i64 0) ∧ w.cell? ⟨0, 7, none⟩ = some (.int .i64 (-1)) := by
  refine ⟨?_, ?_, ?_, ?_, ?_, ?_, ?_, ?_⟩ <;> (rw [World.var?_cell gDir h]; rfl)

theorem Dirs.size {w : World} (h : Dirs w) : 0 < w.heap.size := by
  have := h.cells.1
  unfold World.cell? at this
  apply Classical.byContradiction
  intro hn
  rw [Array.getElem?_eq_none (by omega)] at this
  simp at this

theorem Dirs.below {w w' : World} (h : Dirs w) (hb : Below w.heap.size w w') : Dirs w' := var?_below hb gDir h.size h

/-- A world for the witness: the settled one, the variable holding what its initialiser lays. -/
noncomputable def laidWorld (os : Os) : World :=
  { World.holding Tryd.prog os ⟨#[], #[], []⟩ with heap := (World.holding Tryd.prog os ⟨#[], #[], []⟩).heap.modify 0 fun
      | .cells _ t frozen => .cells dirNums t frozen
      | o => o }
end Go.Proofs.YtbeacmealippmaaDoor
