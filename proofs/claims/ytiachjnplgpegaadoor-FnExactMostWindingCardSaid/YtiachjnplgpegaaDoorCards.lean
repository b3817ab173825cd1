/-
  DERIVED. GIVEN WITH THE SEED: THE CARDS: each row of YtiachjnplgpegaaDoorRows.lean that lists a variable, with what it lists TIED to the program's text (the seventh form; the later family's looks); each row that meets fmt, with fmt's text TOLD by the authors' own Lean function (tested against real Go, not proved from fmt's source: count such statements apart). THE CARD IS WHAT COUNTS. Prove the row's statement (the work); the ties are given (YtiachjnplgpegaaDoorTie.lean); close each card by the builder's one call (the guide's Derived/Test/ToyasCard.lean, 'card_holds'). Laid BY PROGRAM, IN A SANDBOX (cutbox-door.mjs). By AI agents, Wed Nov 11 2026. No macro, syntax, notation, axiom, sorry.
-/
import Derived.Test.YtiachjnplgpegaaDoorRows
import GoSem.ClaimSeven
namespace Go.Proofs.YtiachjnplgpegaaDoor
namespace Rows

/-- THE TIED CARD OF 'laws.FnExactBothOf'. -/
def fnExactBothOfCard : Claim7 := { stood := { row := fnExactBothOfRow, standIns := [], harness := (true, "2539f7a2388c3fe69dfcccb46d735b14dc18c0da2802e34cb52cad30786e7642"), looks := false }, kinds := [], alts := [], laidByText := true, laidKinds := [.data], laidTests := true, laidLooks := .later }
def FnExactBothOfCardSaid : Prop := Claim7.holds Tryd.pinned (.plain (OpenSpec.ofChange fnExactBothOfSpec)) fnExactBothOfCard

/-- THE TIED CARD OF 'laws.FnExactAreaOf'. -/
def fnExactAreaOfCard : Claim7 := { stood := { row := fnExactAreaOfRow, standIns := [], harness := (true, "2539f7a2388c3fe69dfcccb46d735b14dc18c0da2802e34cb52cad30786e7642"), looks := false }, kinds := [], alts := [], laidByText := true, laidKinds := [.data], laidTests := true, laidLooks := .later }
def FnExactAreaOfCardSaid : Prop := Claim7.holds Tryd.pinned (.plain (OpenSpec.ofChange fnExactAreaOfSpec)) fnExactAreaOfCard

/-- THE TIED CARD OF 'laws.FnExactWindingOf'. -/
def fnExactWindingOfCard : Claim7 := { stood := { row := fnExactWindingOfRow, standIns := [], harness := (true, "2539f7a2388c3fe69dfcccb46d735b14dc18c0da2802e34cb52cad30786e7642"), looks := false }, kinds := [], alts := [], laidByText := true, laidKinds := [.data], laidTests := true, laidLooks := .later }
def FnExactWindingOfCardSaid : Prop := Claim7.holds Tryd.pinned (.plain (OpenSpec.ofChange fnExactWindingOfSpec)) fnExactWindingOfCard

/-- THE TIED CARD OF 'laws.FnExactWithinOk'. -/
def fnExactWithinOkCard : Claim7 := { stood := { row := fnExactWithinOkRow, standIns := [], harness := (true, "2539f7a2388c3fe69dfcccb46d735b14dc18c0da2802e34cb52cad30786e7642"), looks := false }, kinds := [], alts := [], laidByText := true, laidKinds := [.data], laidTests := true, laidLooks := .later }
def FnExactWithinOkCardSaid : Prop := Claim7.holds Tryd.pinned (.plain (OpenSpec.ofChange fnExactWithinOkSpec)) fnExactWithinOkCard

/-- THE TIED CARD OF 'laws.FnExactAllWindings'. -/
def fnExactAllWindingsCard : Claim7 := { stood := { row := fnExactAllWindingsRow, standIns := [], harness := (true, "2539f7a2388c3fe69dfcccb46d735b14dc18c0da2802e34cb52cad30786e7642"), looks := false }, kinds := [], alts := [], laidByText := true, laidKinds := [.data], laidTests := true, laidLooks := .later }
def FnExactAllWindingsCardSaid : Prop := Claim7.holds Tryd.pinned (.plain (OpenSpec.ofChange fnExactAllWindingsSpec)) fnExactAllWindingsCard

/-- THE TIED CARD OF 'laws.FnExactMostWinding'. -/
def fnExactMostWindingCard : Claim7 := { stood := { row := fnExactMostWindingRow, standIns := [], harness := (true, "2539f7a2388c3fe69dfcccb46d735b14dc18c0da2802e34cb52cad30786e7642"), looks := false }, kinds := [], alts := [], laidByText := true, laidKinds := [.data], laidTests := true, laidLooks := .later }
def FnExactMostWindingCardSaid : Prop := Claim7.holds Tryd.pinned (.plain (OpenSpec.ofChange fnExactMostWindingSpec)) fnExactMostWindingCard

/-- THE SECOND FORM's CARD OF 'laws.FnExactBothOf'. -/
def fnExactBothOfUptoCard : Claim7 := { stood := { row := fnExactBothOfUptoRow, standIns := [], harness := (true, "2539f7a2388c3fe69dfcccb46d735b14dc18c0da2802e34cb52cad30786e7642"), looks := false }, kinds := [], alts := [], laidByText := true, laidKinds := [.data], laidTests := true, laidLooks := .later }
def FnExactBothOfUptoCardSaid : Prop := Claim7.holds Tryd.pinned (.plain (OpenSpec.upto fnExactBothOfSpec)) fnExactBothOfUptoCard

/-- THE SECOND FORM's CARD OF 'laws.FnExactAreaOf'. -/
def fnExactAreaOfUptoCard : Claim7 := { stood := { row := fnExactAreaOfUptoRow, standIns := [], harness := (true, "2539f7a2388c3fe69dfcccb46d735b14dc18c0da2802e34cb52cad30786e7642"), looks := false }, kinds := [], alts := [], laidByText := true, laidKinds := [.data], laidTests := true, laidLooks := .later }
def FnExactAreaOfUptoCardSaid : Prop := Claim7.holds Tryd.pinned (.plain (OpenSpec.upto fnExactAreaOfSpec)) fnExactAreaOfUptoCard

/-- THE SECOND FORM's CARD OF 'laws.FnExactWindingOf'. -/
def fnExactWindingOfUptoCard : Claim7 := { stood := { row := fnExactWindingOfUptoRow, standIns := [], harness := (true, "2539f7a2388c3fe69dfcccb46d735b14dc18c0da2802e34cb52cad30786e7642"), looks := false }, kinds := [], alts := [], laidByText := true, laidKinds := [.data], laidTests := true, laidLooks := .later }
def FnExactWindingOfUptoCardSaid : Prop := Claim7.holds Tryd.pinned (.plain (OpenSpec.upto fnExactWindingOfSpec)) fnExactWindingOfUptoCard

/-- THE SECOND FORM's CARD OF 'laws.FnExactWithinOk'. -/
def fnExactWithinOkUptoCard : Claim7 := { stood := { row := fnExactWithinOkUptoRow, standIns := [], harness := (true, "2539f7a2388c3fe69dfcccb46d735b14dc18c0da2802e34cb52cad30786e7642"), looks := false }, kinds := [], alts := [], laidByText := true, laidKinds := [.data], laidTests := true, laidLooks := .later }
def FnExactWithinOkUptoCardSaid : Prop := Claim7.holds Tryd.pinned (.plain (OpenSpec.upto fnExactWithinOkSpec)) fnExactWithinOkUptoCard

/-- THE SECOND FORM's CARD OF 'laws.FnExactAllWindings'. -/
def fnExactAllWindingsUptoCard : Claim7 := { stood := { row := fnExactAllWindingsUptoRow, standIns := [], harness := (true, "2539f7a2388c3fe69dfcccb46d735b14dc18c0da2802e34cb52cad30786e7642"), looks := false }, kinds := [], alts := [], laidByText := true, laidKinds := [.data], laidTests := true, laidLooks := .later }
def FnExactAllWindingsUptoCardSaid : Prop := Claim7.holds Tryd.pinned (.plain (OpenSpec.upto fnExactAllWindingsSpec)) fnExactAllWindingsUptoCard

/-- THE SECOND FORM's CARD OF 'laws.FnExactMostWinding'. -/
def fnExactMostWindingUptoCard : Claim7 := { stood := { row := fnExactMostWindingUptoRow, standIns := [], harness := (true, "2539f7a2388c3fe69dfcccb46d735b14dc18c0da2802e34cb52cad30786e7642"), looks := false }, kinds := [], alts := [], laidByText := true, laidKinds := [.data], laidTests := true, laidLooks := .later }
def FnExactMostWindingUptoCardSaid : Prop := Claim7.holds Tryd.pinned (.plain (OpenSpec.upto fnExactMostWindingSpec)) fnExactMostWindingUptoCard
end Rows
end Go.Proofs.YtiachjnplgpegaaDoor
