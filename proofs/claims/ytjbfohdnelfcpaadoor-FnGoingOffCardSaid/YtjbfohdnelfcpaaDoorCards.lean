/-
  DERIVED. GIVEN WITH THE SEED: THE CARDS: each row of YtjbfohdnelfcpaaDoorRows.lean that lists a variable, with what it lists TIED to the program's text (the seventh form; the later family's looks); each row that meets fmt, with fmt's text TOLD by the authors' own Lean function (tested against real Go, not proved from fmt's source: count such statements apart). THE CARD IS WHAT COUNTS. Prove the row's statement (the work); the ties are given (YtjbfohdnelfcpaaDoorTie.lean); close each card by the builder's one call (the guide's Derived/Test/ToyasCard.lean, 'card_holds'). Laid BY PROGRAM, IN A SANDBOX (cutbox-door.mjs). By AI agents, Wed Nov 11 2026. No macro, syntax, notation, axiom, sorry.
-/
import Derived.Test.YtjbfohdnelfcpaaDoorRows
import GoSem.ClaimSeven
namespace Go.Proofs.YtjbfohdnelfcpaaDoor
namespace Rows

/-- THE TIED CARD OF 'laws.FnExactSpiralRounds'. -/
def fnExactSpiralRoundsCard : Claim7 := { stood := { row := fnExactSpiralRoundsRow, standIns := [], harness := (true, "71699723a7df6e18ebeb2f06e1c1c95266c870e20f90e6b36930a951aa85215a"), looks := false }, kinds := [], alts := [], laidByText := true, laidKinds := [.data], laidTests := true, laidLooks := .later }
def FnExactSpiralRoundsCardSaid : Prop := Claim7.holds Tryd.pinned (.plain (OpenSpec.ofChange fnExactSpiralRoundsSpec)) fnExactSpiralRoundsCard

/-- THE TIED CARD OF 'laws.FnExactGoingOff'. -/
def fnExactGoingOffCard : Claim7 := { stood := { row := fnExactGoingOffRow, standIns := [], harness := (true, "71699723a7df6e18ebeb2f06e1c1c95266c870e20f90e6b36930a951aa85215a"), looks := false }, kinds := [], alts := [], laidByText := true, laidKinds := [.data], laidTests := true, laidLooks := .later }
def FnExactGoingOffCardSaid : Prop := Claim7.holds Tryd.pinned (.plain (OpenSpec.ofChange fnExactGoingOffSpec)) fnExactGoingOffCard

/-- THE TIED CARD OF 'laws.FnSpiralRounds'. -/
def fnSpiralRoundsCard : Claim7 := { stood := { row := fnSpiralRoundsRow, standIns := [], harness := (true, "71699723a7df6e18ebeb2f06e1c1c95266c870e20f90e6b36930a951aa85215a"), looks := false }, kinds := [], alts := [], laidByText := true, laidKinds := [.data], laidTests := true, laidLooks := .later }
def FnSpiralRoundsCardSaid : Prop := Claim7.holds Tryd.pinned (.plain (OpenSpec.ofChange fnSpiralRoundsSpec)) fnSpiralRoundsCard

/-- THE TIED CARD OF 'laws.FnExactClosedSpirals'. -/
def fnExactClosedSpiralsCard : Claim7 := { stood := { row := fnExactClosedSpiralsRow, standIns := [], harness := (true, "71699723a7df6e18ebeb2f06e1c1c95266c870e20f90e6b36930a951aa85215a"), looks := false }, kinds := [], alts := [], laidByText := true, laidKinds := [.data], laidTests := true, laidLooks := .later }
def FnExactClosedSpiralsCardSaid : Prop := Claim7.holds Tryd.pinned (.plain (OpenSpec.ofChange fnExactClosedSpiralsSpec)) fnExactClosedSpiralsCard

/-- THE TIED CARD OF 'laws.FnGoingOff'. -/
def fnGoingOffCard : Claim7 := { stood := { row := fnGoingOffRow, standIns := [], harness := (true, "71699723a7df6e18ebeb2f06e1c1c95266c870e20f90e6b36930a951aa85215a"), looks := false }, kinds := [], alts := [], laidByText := true, laidKinds := [.data], laidTests := true, laidLooks := .later }
def FnGoingOffCardSaid : Prop := Claim7.holds Tryd.pinned (.plain (OpenSpec.ofChange fnGoingOffSpec)) fnGoingOffCard

/-- THE TIED CARD OF 'laws.FnClosedSpirals'. -/
def fnClosedSpiralsCard : Claim7 := { stood := { row := fnClosedSpiralsRow, standIns := [], harness := (true, "71699723a7df6e18ebeb2f06e1c1c95266c870e20f90e6b36930a951aa85215a"), looks := false }, kinds := [], alts := [], laidByText := true, laidKinds := [.data], laidTests := true, laidLooks := .later }
def FnClosedSpiralsCardSaid : Prop := Claim7.holds Tryd.pinned (.plain (OpenSpec.ofChange fnClosedSpiralsSpec)) fnClosedSpiralsCard

/-- THE SECOND FORM's CARD OF 'laws.FnExactSpiralRounds'. -/
def fnExactSpiralRoundsUptoCard : Claim7 := { stood := { row := fnExactSpiralRoundsUptoRow, standIns := [], harness := (true, "71699723a7df6e18ebeb2f06e1c1c95266c870e20f90e6b36930a951aa85215a"), looks := false }, kinds := [], alts := [], laidByText := true, laidKinds := [.data], laidTests := true, laidLooks := .later }
def FnExactSpiralRoundsUptoCardSaid : Prop := Claim7.holds Tryd.pinned (.plain (OpenSpec.upto fnExactSpiralRoundsSpec)) fnExactSpiralRoundsUptoCard

/-- THE SECOND FORM's CARD OF 'laws.FnExactGoingOff'. -/
def fnExactGoingOffUptoCard : Claim7 := { stood := { row := fnExactGoingOffUptoRow, standIns := [], harness := (true, "71699723a7df6e18ebeb2f06e1c1c95266c870e20f90e6b36930a951aa85215a"), looks := false }, kinds := [], alts := [], laidByText := true, laidKinds := [.data], laidTests := true, laidLooks := .later }
def FnExactGoingOffUptoCardSaid : Prop := Claim7.holds Tryd.pinned (.plain (OpenSpec.upto fnExactGoingOffSpec)) fnExactGoingOffUptoCard

/-- THE SECOND FORM's CARD OF 'laws.FnSpiralRounds'. -/
def fnSpiralRoundsUptoCard : Claim7 := { stood := { row := fnSpiralRoundsUptoRow, standIns := [], harness := (true, "71699723a7df6e18ebeb2f06e1c1c95266c870e20f90e6b36930a951aa85215a"), looks := false }, kinds := [], alts := [], laidByText := true, laidKinds := [.data], laidTests := true, laidLooks := .later }
def FnSpiralRoundsUptoCardSaid : Prop := Claim7.holds Tryd.pinned (.plain (OpenSpec.upto fnSpiralRoundsSpec)) fnSpiralRoundsUptoCard

/-- THE SECOND FORM's CARD OF 'laws.FnExactClosedSpirals'. -/
def fnExactClosedSpiralsUptoCard : Claim7 := { stood := { row := fnExactClosedSpiralsUptoRow, standIns := [], harness := (true, "71699723a7df6e18ebeb2f06e1c1c95266c870e20f90e6b36930a951aa85215a"), looks := false }, kinds := [], alts := [], laidByText := true, laidKinds := [.data], laidTests := true, laidLooks := .later }
def FnExactClosedSpiralsUptoCardSaid : Prop := Claim7.holds Tryd.pinned (.plain (OpenSpec.upto fnExactClosedSpiralsSpec)) fnExactClosedSpiralsUptoCard

/-- THE SECOND FORM's CARD OF 'laws.FnGoingOff'. -/
def fnGoingOffUptoCard : Claim7 := { stood := { row := fnGoingOffUptoRow, standIns := [], harness := (true, "71699723a7df6e18ebeb2f06e1c1c95266c870e20f90e6b36930a951aa85215a"), looks := false }, kinds := [], alts := [], laidByText := true, laidKinds := [.data], laidTests := true, laidLooks := .later }
def FnGoingOffUptoCardSaid : Prop := Claim7.holds Tryd.pinned (.plain (OpenSpec.upto fnGoingOffSpec)) fnGoingOffUptoCard

/-- THE SECOND FORM's CARD OF 'laws.FnClosedSpirals'. -/
def fnClosedSpiralsUptoCard : Claim7 := { stood := { row := fnClosedSpiralsUptoRow, standIns := [], harness := (true, "71699723a7df6e18ebeb2f06e1c1c95266c870e20f90e6b36930a951aa85215a"), looks := false }, kinds := [], alts := [], laidByText := true, laidKinds := [.data], laidTests := true, laidLooks := .later }
def FnClosedSpiralsUptoCardSaid : Prop := Claim7.holds Tryd.pinned (.plain (OpenSpec.upto fnClosedSpiralsSpec)) fnClosedSpiralsUptoCard
end Rows
end Go.Proofs.YtjbfohdnelfcpaaDoor
