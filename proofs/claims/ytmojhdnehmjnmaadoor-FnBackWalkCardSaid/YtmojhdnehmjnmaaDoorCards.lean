/-
  DERIVED. GIVEN WITH THE SEED: THE CARDS: each row of YtmojhdnehmjnmaaDoorRows.lean that lists a variable, with what it lists TIED to the program's text (the seventh form; the later family's looks); each row that meets fmt, with fmt's text TOLD by the authors' own Lean function (tested against real Go, not proved from fmt's source: count such statements apart). THE CARD IS WHAT COUNTS. Prove the row's statement (the work); the ties are given (YtmojhdnehmjnmaaDoorTie.lean); close each card by the builder's one call (the guide's Derived/Test/ToyasCard.lean, 'card_holds'). Laid BY PROGRAM, IN A SANDBOX (cutbox-door.mjs). By AI agents, Wed Nov 11 2026. No macro, syntax, notation, axiom, sorry.
-/
import Derived.Test.YtmojhdnehmjnmaaDoorRows
import GoSem.ClaimSeven
namespace Go.Proofs.YtmojhdnehmjnmaaDoor
namespace Rows

/-- THE TIED CARD OF 'laws.FnBackWalk'. -/
def fnBackWalkCard : Claim7 := { stood := { row := fnBackWalkRow, standIns := [], harness := (true, "03b752fb5ef6aca44c26e1b0aff1fc895f2a9e736bf40f4c3c890e3301662cc4"), looks := false }, kinds := [], alts := [], laidByText := true, laidKinds := [.data], laidTests := true, laidLooks := .later }
def FnBackWalkCardSaid : Prop := Claim7.holds Tryd.pinned (.plain (OpenSpec.ofChange fnBackWalkSpec)) fnBackWalkCard

/-- THE TIED CARD OF 'laws.FnBothOf'. -/
def fnBothOfCard : Claim7 := { stood := { row := fnBothOfRow, standIns := [], harness := (true, "03b752fb5ef6aca44c26e1b0aff1fc895f2a9e736bf40f4c3c890e3301662cc4"), looks := false }, kinds := [], alts := [], laidByText := true, laidKinds := [.data], laidTests := true, laidLooks := .later }
def FnBothOfCardSaid : Prop := Claim7.holds Tryd.pinned (.plain (OpenSpec.ofChange fnBothOfSpec)) fnBothOfCard

/-- THE TIED CARD OF 'laws.FnWindingOf'. -/
def fnWindingOfCard : Claim7 := { stood := { row := fnWindingOfRow, standIns := [], harness := (true, "03b752fb5ef6aca44c26e1b0aff1fc895f2a9e736bf40f4c3c890e3301662cc4"), looks := false }, kinds := [], alts := [], laidByText := true, laidKinds := [.data], laidTests := true, laidLooks := .later }
def FnWindingOfCardSaid : Prop := Claim7.holds Tryd.pinned (.plain (OpenSpec.ofChange fnWindingOfSpec)) fnWindingOfCard

/-- THE TIED CARD OF 'laws.FnTurningOf'. -/
def fnTurningOfCard : Claim7 := { stood := { row := fnTurningOfRow, standIns := [], harness := (true, "03b752fb5ef6aca44c26e1b0aff1fc895f2a9e736bf40f4c3c890e3301662cc4"), looks := false }, kinds := [], alts := [], laidByText := true, laidKinds := [.data], laidTests := true, laidLooks := .later }
def FnTurningOfCardSaid : Prop := Claim7.holds Tryd.pinned (.plain (OpenSpec.ofChange fnTurningOfSpec)) fnTurningOfCard

/-- THE TIED CARD OF 'laws.FnWithinOk'. -/
def fnWithinOkCard : Claim7 := { stood := { row := fnWithinOkRow, standIns := [], harness := (true, "03b752fb5ef6aca44c26e1b0aff1fc895f2a9e736bf40f4c3c890e3301662cc4"), looks := false }, kinds := [], alts := [], laidByText := true, laidKinds := [.data], laidTests := true, laidLooks := .later }
def FnWithinOkCardSaid : Prop := Claim7.holds Tryd.pinned (.plain (OpenSpec.ofChange fnWithinOkSpec)) fnWithinOkCard

/-- THE TIED CARD OF 'laws.FnAreaOf'. -/
def fnAreaOfCard : Claim7 := { stood := { row := fnAreaOfRow, standIns := [], harness := (true, "03b752fb5ef6aca44c26e1b0aff1fc895f2a9e736bf40f4c3c890e3301662cc4"), looks := false }, kinds := [], alts := [], laidByText := true, laidKinds := [.data], laidTests := true, laidLooks := .later }
def FnAreaOfCardSaid : Prop := Claim7.holds Tryd.pinned (.plain (OpenSpec.ofChange fnAreaOfSpec)) fnAreaOfCard

/-- THE SECOND FORM's CARD OF 'laws.FnBackWalk'. -/
def fnBackWalkUptoCard : Claim7 := { stood := { row := fnBackWalkUptoRow, standIns := [], harness := (true, "03b752fb5ef6aca44c26e1b0aff1fc895f2a9e736bf40f4c3c890e3301662cc4"), looks := false }, kinds := [], alts := [], laidByText := true, laidKinds := [.data], laidTests := true, laidLooks := .later }
def FnBackWalkUptoCardSaid : Prop := Claim7.holds Tryd.pinned (.plain (OpenSpec.upto fnBackWalkSpec)) fnBackWalkUptoCard

/-- THE SECOND FORM's CARD OF 'laws.FnBothOf'. -/
def fnBothOfUptoCard : Claim7 := { stood := { row := fnBothOfUptoRow, standIns := [], harness := (true, "03b752fb5ef6aca44c26e1b0aff1fc895f2a9e736bf40f4c3c890e3301662cc4"), looks := false }, kinds := [], alts := [], laidByText := true, laidKinds := [.data], laidTests := true, laidLooks := .later }
def FnBothOfUptoCardSaid : Prop := Claim7.holds Tryd.pinned (.plain (OpenSpec.upto fnBothOfSpec)) fnBothOfUptoCard

/-- THE SECOND FORM's CARD OF 'laws.FnWindingOf'. -/
def fnWindingOfUptoCard : Claim7 := { stood := { row := fnWindingOfUptoRow, standIns := [], harness := (true, "03b752fb5ef6aca44c26e1b0aff1fc895f2a9e736bf40f4c3c890e3301662cc4"), looks := false }, kinds := [], alts := [], laidByText := true, laidKinds := [.data], laidTests := true, laidLooks := .later }
def FnWindingOfUptoCardSaid : Prop := Claim7.holds Tryd.pinned (.plain (OpenSpec.upto fnWindingOfSpec)) fnWindingOfUptoCard

/-- THE SECOND FORM's CARD OF 'laws.FnTurningOf'. -/
def fnTurningOfUptoCard : Claim7 := { stood := { row := fnTurningOfUptoRow, standIns := [], harness := (true, "03b752fb5ef6aca44c26e1b0aff1fc895f2a9e736bf40f4c3c890e3301662cc4"), looks := false }, kinds := [], alts := [], laidByText := true, laidKinds := [.data], laidTests := true, laidLooks := .later }
def FnTurningOfUptoCardSaid : Prop := Claim7.holds Tryd.pinned (.plain (OpenSpec.upto fnTurningOfSpec)) fnTurningOfUptoCard

/-- THE SECOND FORM's CARD OF 'laws.FnWithinOk'. -/
def fnWithinOkUptoCard : Claim7 := { stood := { row := fnWithinOkUptoRow, standIns := [], harness := (true, "03b752fb5ef6aca44c26e1b0aff1fc895f2a9e736bf40f4c3c890e3301662cc4"), looks := false }, kinds := [], alts := [], laidByText := true, laidKinds := [.data], laidTests := true, laidLooks := .later }
def FnWithinOkUptoCardSaid : Prop := Claim7.holds Tryd.pinned (.plain (OpenSpec.upto fnWithinOkSpec)) fnWithinOkUptoCard

/-- THE SECOND FORM's CARD OF 'laws.FnAreaOf'. -/
def fnAreaOfUptoCard : Claim7 := { stood := { row := fnAreaOfUptoRow, standIns := [], harness := (true, "03b752fb5ef6aca44c26e1b0aff1fc895f2a9e736bf40f4c3c890e3301662cc4"), looks := false }, kinds := [], alts := [], laidByText := true, laidKinds := [.data], laidTests := true, laidLooks := .later }
def FnAreaOfUptoCardSaid : Prop := Claim7.holds Tryd.pinned (.plain (OpenSpec.upto fnAreaOfSpec)) fnAreaOfUptoCard
end Rows
end Go.Proofs.YtmojhdnehmjnmaaDoor
