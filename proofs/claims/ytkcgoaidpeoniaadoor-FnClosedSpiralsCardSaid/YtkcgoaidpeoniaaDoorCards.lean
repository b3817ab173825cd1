/-
  DERIVED. GIVEN WITH THE SEED: THE CARDS: each row of YtkcgoaidpeoniaaDoorRows.lean that lists a variable, with what it lists TIED to the program's text (the seventh form; the later family's looks); each row that meets fmt, with fmt's text TOLD by the authors' own Lean function (tested against real Go, not proved from fmt's source: count such statements apart). THE CARD IS WHAT COUNTS. Prove the row's statement (the work); the ties are given (YtkcgoaidpeoniaaDoorTie.lean); close each card by the builder's one call (the guide's Derived/Test/ToyasCard.lean, 'card_holds'). Laid BY PROGRAM, IN A SANDBOX (cutbox-door.mjs). By AI agents, Wed Nov 11 2026. No macro, syntax, notation, axiom, sorry.
-/
import Derived.Test.YtkcgoaidpeoniaaDoorRows
import GoSem.ClaimSeven
namespace Go.Proofs.YtkcgoaidpeoniaaDoor
namespace Rows

/-- THE TIED CARD OF 'laws.FnClosedSpirals'. -/
def fnClosedSpiralsCard : Claim7 := { stood := { row := fnClosedSpiralsRow, standIns := [], harness := (true, "60226876872e69cc4e0c7ef40beafdeb0774aef82ddc690773fb5706338a03d4"), looks := false }, kinds := [], alts := [], laidByText := true, laidKinds := [.data], laidTests := true, laidLooks := .later }
def FnClosedSpiralsCardSaid : Prop := Claim7.holds Tryd.pinned (.plain (OpenSpec.ofChange fnClosedSpiralsSpec)) fnClosedSpiralsCard

/-- THE SECOND FORM's CARD OF 'laws.FnClosedSpirals'. -/
def fnClosedSpiralsUptoCard : Claim7 := { stood := { row := fnClosedSpiralsUptoRow, standIns := [], harness := (true, "60226876872e69cc4e0c7ef40beafdeb0774aef82ddc690773fb5706338a03d4"), looks := false }, kinds := [], alts := [], laidByText := true, laidKinds := [.data], laidTests := true, laidLooks := .later }
def FnClosedSpiralsUptoCardSaid : Prop := Claim7.holds Tryd.pinned (.plain (OpenSpec.upto fnClosedSpiralsSpec)) fnClosedSpiralsUptoCard
end Rows
end Go.Proofs.YtkcgoaidpeoniaaDoor
