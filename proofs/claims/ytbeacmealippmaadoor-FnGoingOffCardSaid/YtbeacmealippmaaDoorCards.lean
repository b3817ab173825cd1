/-
  DERIVED. GIVEN WITH THE SEED: THE CARDS: each row of YtbeacmealippmaaDoorRows.lean that lists a variable, with what it lists TIED to the program's text (the seventh form; the later family's looks); each row that meets fmt, with fmt's text TOLD by the authors' own Lean function (tested against real Go, not proved from fmt's source: count such statements apart). THE CARD IS WHAT COUNTS. Prove the row's statement (the work); the ties are given (YtbeacmealippmaaDoorTie.lean); close each card by the builder's one call (the guide's Derived/Test/ToyasCard.lean, 'card_holds'). Laid BY PROGRAM, IN A SANDBOX (cutbox-door.mjs). By AI agents, Wed Nov 11 2026. No macro, syntax, notation, axiom, sorry.
-/
import Derived.Test.YtbeacmealippmaaDoorRows
import GoSem.ClaimSeven
namespace Go.Proofs.YtbeacmealippmaaDoor
namespace Rows

/-- THE TIED CARD OF 'laws.FnExactSpiralRounds'. -/
def fnExactSpiralRoundsCard : Claim7 := { stood := { row := fnExactSpiralRoundsRow, standIns := [], harness := (true, "658c797a2364c234bcdb0bae8018d871334b078c014748fd97d857046ba15f3f"), looks := false }, kinds := [], alts := [], laidByText := true, laidKinds := [.data], laidTests := true, laidLooks := .later }
def FnExactSpiralRoundsCardSaid : Prop := Claim7.holds Tryd.pinned (.plain (OpenSpec.ofChange fnExactSpiralRoundsSpec)) fnExactSpiralRoundsCard

/-- THE TIED CARD OF 'laws.FnExactGoingOff'. -/
def fnExactGoingOffCard : Claim7 := { stood := { row := fnExactGoingOffRow, standIns := [], harness := (true, "658c797a2364c234bcdb0bae8018d871334b078c014748fd97d857046ba15f3f"), looks := false }, kinds := [], alts := [], laidByText := true, laidKinds := [.data], laidTests := true, laidLooks := .later }
def FnExactGoingOffCardSaid : Prop := Claim7.holds Tryd.pinned (.plain (OpenSpec.ofChange fnExactGoingOffSpec)) fnExactGoingOffCard

/-- THE TIED CARD OF 'laws.FnSpiralRounds'. -/
def fnSpiralRoundsCard : Claim7 := { stood := { row := fnSpiralRoundsRow, standIns := [], harness := (true, "658c797a2364c234bcdb0bae8018d871334b078c014748fd97d857046ba15f3f"), looks := false }, kinds := [], alts := [], laidByText := true, laidKinds := [.data], laidTests := true, laidLooks := .later }
def FnSpiralRoundsCardSaid : Prop := Claim7.holds Tryd.pinned (.plain (OpenSpec.ofChange fnSpiralRoundsSpec)) fnSpiralRoundsCard

/-- THE TIED CARD OF 'laws.FnExactClosedSpirals'. -/
def fnExactClosedSpiralsCard : Claim7 := { stood := { row := fnExactClosedSpiralsRow, standIns := [], harness := (true, "658c797a2364c234bcdb0bae8018d871334b078c014748fd97d857046ba15f3f"), looks := false }, kinds := [], alts := [], laidByText := true, laidKinds := [.data], laidTests := true, laidLooks := .later }
def FnExactClosedSpiralsCardSaid : Prop := Claim7.holds Tryd.pinned (.plain (OpenSpec.ofChange fnExactClosedSpiralsSpec)) fnExactClosedSpiralsCard

/-- THE TIED CARD OF 'laws.FnGoingOff'. -/
def fnGoingOffCard : Claim7 := { stood := { row := fnGoingOffRow, standIns := [], harness := (true, "658c797a2364c234bcdb0bae8018d871334b078c014748fd97d857046ba15f3f"), looks := false }, kinds := [], alts := [], laidByText := true, laidKinds := [.data], laidTests := true, laidLooks := .later }
def FnGoingOffCardSaid : Prop := Claim7.holds Tryd.pinned (.plain (OpenSpec.ofChange fnGoingOffSpec)) fnGoingOffCard

/-- THE SECOND FORM's CARD OF 'laws.FnExactSpiralRounds'. -/
def fnExactSpiralRoundsUptoCard : Claim7 := { stood := { row := fnExactSpiralRoundsUptoRow, standIns := [], harness := (true, "658c797a2364c234bcdb0bae8018d871334b078c014748fd97d857046ba15f3f"), looks := false }, kinds := [], alts := [], laidByText := true, laidKinds := [.data], laidTests := true, laidLooks := .later }
def FnExactSpiralRoundsUptoCardSaid : Prop := Claim7.holds Tryd.pinned (.plain (OpenSpec.upto fnExactSpiralRoundsSpec)) fnExactSpiralRoundsUptoCard

/-- THE SECOND FORM's CARD OF 'laws.FnExactGoingOff'. -/
def fnExactGoingOffUptoCard : Claim7 := { stood := { row := fnExactGoingOffUptoRow, standIns := [], harness := (true, "658c797a2364c234bcdb0bae8018d871334b078c014748fd97d857046ba15f3f"), looks := false }, kinds := [], alts := [], laidByText := true, laidKinds := [.data], laidTests := true, laidLooks := .later }
def FnExactGoingOffUptoCardSaid : Prop := Claim7.holds Tryd.pinned (.plain (OpenSpec.upto fnExactGoingOffSpec)) fnExactGoingOffUptoCard

/-- THE SECOND FORM's CARD OF 'laws.FnSpiralRounds'. -/
def fnSpiralRoundsUptoCard : Claim7 := { stood := { row := fnSpiralRoundsUptoRow, standIns := [], harness := (true, "658c797a2364c234bcdb0bae8018d871334b078c014748fd97d857046ba15f3f"), looks := false }, kinds := [], alts := [], laidByText := true, laidKinds := [.data], laidTests := true, laidLooks := .later }
def FnSpiralRoundsUptoCardSaid : Prop := Claim7.holds Tryd.pinned (.plain (OpenSpec.upto fnSpiralRoundsSpec)) fnSpiralRoundsUptoCard

/-- THE SECOND FORM's CARD OF 'laws.FnExactClosedSpirals'. -/
def fnExactClosedSpiralsUptoCard : Claim7 := { stood := { row := fnExactClosedSpiralsUptoRow, standIns := [], harness := (true, "658c797a2364c234bcdb0bae8018d871334b078c014748fd97d857046ba15f3f"), looks := false }, kinds := [], alts := [], laidByText := true, laidKinds := [.data], laidTests := true, laidLooks := .later }
def FnExactClosedSpiralsUptoCardSaid : Prop := Claim7.holds Tryd.pinned (.plain (OpenSpec.upto fnExactClosedSpiralsSpec)) fnExactClosedSpiralsUptoCard

/-- THE SECOND FORM's CARD OF 'laws.FnGoingOff'. -/
def fnGoingOffUptoCard : Claim7 := { stood := { row := fnGoingOffUptoRow, standIns := [], harness := (true, "658c797a2364c234bcdb0bae8018d871334b078c014748fd97d857046ba15f3f"), looks := false }, kinds := [], alts := [], laidByText := true, laidKinds := [.data], laidTests := true, laidLooks := .later }
def FnGoingOffUptoCardSaid : Prop := Claim7.holds Tryd.pinned (.plain (OpenSpec.upto fnGoingOffSpec)) fnGoingOffUptoCard
end Rows
end Go.Proofs.YtbeacmealippmaaDoor
