/-
  DERIVED. GIVEN WITH THE SEED: THE CARDS: each row of YtkfmppjljdhogaaDoorRows.lean that lists a variable, with what it lists TIED to the program's text (the seventh form; the later family's looks); each row that meets fmt, with fmt's text TOLD by the authors' own Lean function (tested against real Go, not proved from fmt's source: count such statements apart). THE CARD IS WHAT COUNTS. Prove the row's statement (the work); the ties are given (YtkfmppjljdhogaaDoorTie.lean); close each card by the builder's one call (the guide's Derived/Test/ToyasCard.lean, 'card_holds'). Laid BY PROGRAM, IN A SANDBOX (cutbox-door.mjs). By AI agents, Wed Nov 11 2026. No macro, syntax, notation, axiom, sorry.
-/
import Derived.Test.YtkfmppjljdhogaaDoorRows
import GoSem.ClaimSeven
namespace Go.Proofs.YtkfmppjljdhogaaDoor
namespace Rows

/-- THE TIED CARD OF 'laws.FnMostWinding'. -/
def fnMostWindingCard : Claim7 := { stood := { row := fnMostWindingRow, standIns := [], harness := (true, "22a57a0d1ca675f9a11342b829d12e8743e514675f3fa93f7a450ec5afe4902b"), looks := false }, kinds := [], alts := [], laidByText := true, laidKinds := [.data], laidTests := true, laidLooks := .later }
def FnMostWindingCardSaid : Prop := Claim7.holds Tryd.pinned (.plain (OpenSpec.ofChange fnMostWindingSpec)) fnMostWindingCard

/-- THE TIED CARD OF 'laws.FnSquaresIn'. -/
def fnSquaresInCard : Claim7 := { stood := { row := fnSquaresInRow, standIns := [], harness := (true, "22a57a0d1ca675f9a11342b829d12e8743e514675f3fa93f7a450ec5afe4902b"), looks := false }, kinds := [], alts := [], laidByText := true, laidKinds := [.data], laidTests := true, laidLooks := .later }
def FnSquaresInCardSaid : Prop := Claim7.holds Tryd.pinned (.plain (OpenSpec.ofChange fnSquaresInSpec)) fnSquaresInCard

/-- THE TIED CARD OF 'laws.FnCrossingsIn'. -/
def fnCrossingsInCard : Claim7 := { stood := { row := fnCrossingsInRow, standIns := [], harness := (true, "22a57a0d1ca675f9a11342b829d12e8743e514675f3fa93f7a450ec5afe4902b"), looks := false }, kinds := [], alts := [], laidByText := true, laidKinds := [.data], laidTests := true, laidLooks := .later }
def FnCrossingsInCardSaid : Prop := Claim7.holds Tryd.pinned (.plain (OpenSpec.ofChange fnCrossingsInSpec)) fnCrossingsInCard

/-- THE TIED CARD OF 'laws.FnExactSquaresIn'. -/
def fnExactSquaresInCard : Claim7 := { stood := { row := fnExactSquaresInRow, standIns := [], harness := (true, "22a57a0d1ca675f9a11342b829d12e8743e514675f3fa93f7a450ec5afe4902b"), looks := false }, kinds := [], alts := [], laidByText := true, laidKinds := [.data], laidTests := true, laidLooks := .later }
def FnExactSquaresInCardSaid : Prop := Claim7.holds Tryd.pinned (.plain (OpenSpec.ofChange fnExactSquaresInSpec)) fnExactSquaresInCard

/-- THE TIED CARD OF 'laws.FnExactCrossingsIn'. -/
def fnExactCrossingsInCard : Claim7 := { stood := { row := fnExactCrossingsInRow, standIns := [], harness := (true, "22a57a0d1ca675f9a11342b829d12e8743e514675f3fa93f7a450ec5afe4902b"), looks := false }, kinds := [], alts := [], laidByText := true, laidKinds := [.data], laidTests := true, laidLooks := .later }
def FnExactCrossingsInCardSaid : Prop := Claim7.holds Tryd.pinned (.plain (OpenSpec.ofChange fnExactCrossingsInSpec)) fnExactCrossingsInCard

/-- THE TIED CARD OF 'laws.FnAllWindings'. -/
def fnAllWindingsCard : Claim7 := { stood := { row := fnAllWindingsRow, standIns := [], harness := (true, "22a57a0d1ca675f9a11342b829d12e8743e514675f3fa93f7a450ec5afe4902b"), looks := false }, kinds := [], alts := [], laidByText := true, laidKinds := [.data], laidTests := true, laidLooks := .later }
def FnAllWindingsCardSaid : Prop := Claim7.holds Tryd.pinned (.plain (OpenSpec.ofChange fnAllWindingsSpec)) fnAllWindingsCard

/-- THE SECOND FORM's CARD OF 'laws.FnMostWinding'. -/
def fnMostWindingUptoCard : Claim7 := { stood := { row := fnMostWindingUptoRow, standIns := [], harness := (true, "22a57a0d1ca675f9a11342b829d12e8743e514675f3fa93f7a450ec5afe4902b"), looks := false }, kinds := [], alts := [], laidByText := true, laidKinds := [.data], laidTests := true, laidLooks := .later }
def FnMostWindingUptoCardSaid : Prop := Claim7.holds Tryd.pinned (.plain (OpenSpec.upto fnMostWindingSpec)) fnMostWindingUptoCard

/-- THE SECOND FORM's CARD OF 'laws.FnSquaresIn'. -/
def fnSquaresInUptoCard : Claim7 := { stood := { row := fnSquaresInUptoRow, standIns := [], harness := (true, "22a57a0d1ca675f9a11342b829d12e8743e514675f3fa93f7a450ec5afe4902b"), looks := false }, kinds := [], alts := [], laidByText := true, laidKinds := [.data], laidTests := true, laidLooks := .later }
def FnSquaresInUptoCardSaid : Prop := Claim7.holds Tryd.pinned (.plain (OpenSpec.upto fnSquaresInSpec)) fnSquaresInUptoCard

/-- THE SECOND FORM's CARD OF 'laws.FnCrossingsIn'. -/
def fnCrossingsInUptoCard : Claim7 := { stood := { row := fnCrossingsInUptoRow, standIns := [], harness := (true, "22a57a0d1ca675f9a11342b829d12e8743e514675f3fa93f7a450ec5afe4902b"), looks := false }, kinds := [], alts := [], laidByText := true, laidKinds := [.data], laidTests := true, laidLooks := .later }
def FnCrossingsInUptoCardSaid : Prop := Claim7.holds Tryd.pinned (.plain (OpenSpec.upto fnCrossingsInSpec)) fnCrossingsInUptoCard

/-- THE SECOND FORM's CARD OF 'laws.FnExactSquaresIn'. -/
def fnExactSquaresInUptoCard : Claim7 := { stood := { row := fnExactSquaresInUptoRow, standIns := [], harness := (true, "22a57a0d1ca675f9a11342b829d12e8743e514675f3fa93f7a450ec5afe4902b"), looks := false }, kinds := [], alts := [], laidByText := true, laidKinds := [.data], laidTests := true, laidLooks := .later }
def FnExactSquaresInUptoCardSaid : Prop := Claim7.holds Tryd.pinned (.plain (OpenSpec.upto fnExactSquaresInSpec)) fnExactSquaresInUptoCard

/-- THE SECOND FORM's CARD OF 'laws.FnExactCrossingsIn'. -/
def fnExactCrossingsInUptoCard : Claim7 := { stood := { row := fnExactCrossingsInUptoRow, standIns := [], harness := (true, "22a57a0d1ca675f9a11342b829d12e8743e514675f3fa93f7a450ec5afe4902b"), looks := false }, kinds := [], alts := [], laidByText := true, laidKinds := [.data], laidTests := true, laidLooks := .later }
def FnExactCrossingsInUptoCardSaid : Prop := Claim7.holds Tryd.pinned (.plain (OpenSpec.upto fnExactCrossingsInSpec)) fnExactCrossingsInUptoCard

/-- THE SECOND FORM's CARD OF 'laws.FnAllWindings'. -/
def fnAllWindingsUptoCard : Claim7 := { stood := { row := fnAllWindingsUptoRow, standIns := [], harness := (true, "22a57a0d1ca675f9a11342b829d12e8743e514675f3fa93f7a450ec5afe4902b"), looks := false }, kinds := [], alts := [], laidByText := true, laidKinds := [.data], laidTests := true, laidLooks := .later }
def FnAllWindingsUptoCardSaid : Prop := Claim7.holds Tryd.pinned (.plain (OpenSpec.upto fnAllWindingsSpec)) fnAllWindingsUptoCard
end Rows
end Go.Proofs.YtkfmppjljdhogaaDoor
