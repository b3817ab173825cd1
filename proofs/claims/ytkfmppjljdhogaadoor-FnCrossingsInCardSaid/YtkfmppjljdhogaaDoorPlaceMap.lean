/- Maps keyed by places: what a key reads as, sets of places as relations. -/
import Derived.Test.YtkfmppjljdhogaaDoorWkB
import Derived.Maps.OwnSet
import Derived.WideKeyPair
namespace Go.Proofs.YtkfmppjljdhogaaDoor
open Go.RowKit TW
open Go.Maps (Keyed)

theorem arrPlace : WideMaps.ArrKey Tryd.prog 50 3 2 := ⟨Tryd.underlying50, by kernel_rfl, by kernel_rfl, by kernel_rfl⟩
theorem lawPlace : Keyed Tryd.prog 50 := Keyed.of_law arrPlace.law
/-- The key of a place. -/
def klOf (x y : Int) : Lit := .string (keyBytes [.int .i64 x, .int .i64 y])
/-- Numbers that fit. -/
def Fit2 (x y : Int) : Prop := (-1000000 ≤ x ∧ x ≤ 1000000) ∧ (-1000000 ≤ y ∧ y ≤ 1000000)
theorem fit_wf {x y : Int} (h : Fit2 x y) : (Lit.int .i64 x).wf = true ∧ (Lit.int .i64 y).wf = true := by
  obtain ⟨⟨_, _⟩, _, _⟩ := h
  exact ⟨WalkArith.wf_i64 (by omega), WalkArith.wf_i64 (by omega)⟩
theorem keyPlace {x y : Int} (h : Fit2 x y) : keyOf Tryd.prog 50 (.agg #[.int .i64 x, .int .i64 y]) = some (klOf x y) :=
  WideMaps.keyOf_pair arrPlace Tryd.underlying3 ⟨Tryd.prog.types.size - 1, by kernel_rfl⟩ (fit_wf h).1 (fit_wf h).2
theorem klOf_inj {x y p q : Int} (h : Fit2 x y) (g : Fit2 p q) (e : klOf x y = klOf p q) : x = p ∧ y = q := by
  have k1 := keyPlace h
  have k2 := keyPlace g
  rw [← e] at k2
  have := lawPlace.inj k1 k2
  simpa using this
theorem klOf_isKey {x y : Int} (h : Fit2 x y) : WideAt.IsKeyLit (klOf x y) := lawPlace.key (keyPlace h)

/-- A block that is a set of places: just those of V, so many. -/
def SetOf (w : World) (b n : Nat) (V : Int → Int → Prop) (c : Nat) : Prop :=
  ∃ D : DataW Unit, w.ownsMap Tryd.prog 50 (unitElem (H := Unit)) b n D ∧ Maps.size D = c ∧ ∀ x y, Fit2 x y → (Maps.has D (klOf x y) = true ↔ V x y)
theorem SetOf.made (w : World) : SetOf (w.alloc (.map #[] 0)) w.heap.size 0 (fun _ _ => False) 0 :=
  ⟨.map [], World.ownsMap_made _ _ _ _, rfl, fun x y _ => by simp [Maps.has]⟩
end Go.Proofs.YtkfmppjljdhogaaDoor
