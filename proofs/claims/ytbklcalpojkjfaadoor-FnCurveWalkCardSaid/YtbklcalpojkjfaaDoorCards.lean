/-
  DERIVED. GIVEN WITH THE SEED: THE CARDS: each row of YtbklcalpojkjfaaDoorRows.lean that lists a variable, with what it lists TIED to the program's text (the seventh form; the later family's looks); each row that meets fmt, with fmt's text TOLD by the authors' own Lean function (tested against real Go, not proved from fmt's source: count such statements apart). THE CARD IS WHAT COUNTS. Prove the row's statement (the work); the ties are given (YtbklcalpojkjfaaDoorTie.lean); close each card by the builder's one call (the guide's Derived/Test/ToyasCard.lean, 'card_holds'). Laid BY PROGRAM, IN A SANDBOX (cutbox-door.mjs). By AI agents, Wed Nov 11 2026. No macro, syntax, notation, axiom, sorry.
-/
import Derived.Test.YtbklcalpojkjfaaDoorRows
import GoSem.ClaimSeven
namespace Go.Proofs.YtbklcalpojkjfaaDoor
namespace Rows

/-- THE TIED CARD OF 'laws.FnExactCurveWalk'. -/
def fnExactCurveWalkCard : Claim7 := { stood := { row := fnExactCurveWalkRow, standIns := [], harness := (true, "151cd11776e3286669acfdeab12c33f039a05edf1095a0d074b9ecbfeab6393a"), looks := false }, kinds := [], alts := [], laidByText := true, laidKinds := [.data], laidTests := true, laidLooks := .later }
def FnExactCurveWalkCardSaid : Prop := Claim7.holds Tryd.pinned (.plain (OpenSpec.ofChange fnExactCurveWalkSpec)) fnExactCurveWalkCard

/-- THE TIED CARD OF 'laws.FnCurveWalk'. -/
def fnCurveWalkCard : Claim7 := { stood := { row := fnCurveWalkRow, standIns := [], harness := (true, "151cd11776e3286669acfdeab12c33f039a05edf1095a0d074b9ecbfeab6393a"), looks := false }, kinds := [], alts := [], laidByText := true, laidKinds := [.data], laidTests := true, laidLooks := .later }
def FnCurveWalkCardSaid : Prop := Claim7.holds Tryd.pinned (.plain (OpenSpec.ofChange fnCurveWalkSpec)) fnCurveWalkCard

/-- THE SECOND FORM's CARD OF 'laws.FnExactCurveWalk'. -/
def fnExactCurveWalkUptoCard : Claim7 := { stood := { row := fnExactCurveWalkUptoRow, standIns := [], harness := (true, "151cd11776e3286669acfdeab12c33f039a05edf1095a0d074b9ecbfeab6393a"), looks := false }, kinds := [], alts := [], laidByText := true, laidKinds := [.data], laidTests := true, laidLooks := .later }
def FnExactCurveWalkUptoCardSaid : Prop := Claim7.holds Tryd.pinned (.plain (OpenSpec.upto fnExactCurveWalkSpec)) fnExactCurveWalkUptoCard

/-- THE SECOND FORM's CARD OF 'laws.FnCurveWalk'. -/
def fnCurveWalkUptoCard : Claim7 := { stood := { row := fnCurveWalkUptoRow, standIns := [], harness := (true, "151cd11776e3286669acfdeab12c33f039a05edf1095a0d074b9ecbfeab6393a"), looks := false }, kinds := [], alts := [], laidByText := true, laidKinds := [.data], laidTests := true, laidLooks := .later }
def FnCurveWalkUptoCardSaid : Prop := Claim7.holds Tryd.pinned (.plain (OpenSpec.upto fnCurveWalkSpec)) fnCurveWalkUptoCard
end Rows
end Go.Proofs.YtbklcalpojkjfaaDoor
