/-
  NARROWER THAN 'FOR EVERY INPUT', by the rows' own cells (each row's printed sentence says how): FnExactBothOf: laid · FnExactAreaOf: laid · FnExactWindingOf: laid · FnExactWithinOk: laid · FnExactAllWindings: laid · FnExactMostWinding: laid.
  DERIVED. THE GIVEN ROWS OF THIS SEAT. 6 by the template 'for every input the law returns true; each argument reads behind the call as it read before'; 0 by the template 'total and deterministic' (their statements: YtiachjnplgpegaaDoorTotals.lean).
  GIVEN WITH THE SEED: the statements are not yours to turn. If you find one false, say at which input.
  Laid BY PROGRAM, IN A SANDBOX (cutbox-rows.mjs): the forced cells as the released guide's own fill.sh prints them over the translation ad743c2be79d4029… (all of the seat's roots in one cut). By AI agents, Wed Nov 11 2026. No macro, syntax, notation, axiom, sorry.
-/
import Derived.Test.YtiachjnplgpegaaDoorChecked
import GoSem.Claim
import GoSem.ClaimJoined
import GoSem.ClaimMapViews
import Derived.JoinedTies
import Derived.KernelRfl
namespace Go.Proofs.YtiachjnplgpegaaDoor
/- THE CELL 'sum', in the pinned program and in every row, IS THE sha256 OF THE DUMP (.gsa) THAT YtiachjnplgpegaaDoorProg.lean LOADS. Nothing in Lean hashes anything: it is a label: what it is worth is what the hold of that sum in a sandbox is worth. -/
noncomputable def Tryd.pinned : Pinned := { name := "ytiachjnplgpegaadoor", sum := "ad743c2be79d40297e86b03ba587c7144d6571dffb9ffe7f5d6a2a7a743ae666", checked := Tryd.checked }
namespace Rows
def none {H : Type} : Left H := { results := [], args := [] }

/- WHAT THE LISTED PACKAGE-LEVEL VARIABLES READ AS WHEN THE CALL BEGINS. Each datum BY PROGRAM (the guide's laid-datum.mjs) off the statement by which the dump's own 'gosem.cut.vars' lays the variable. In a bare row this is a premise. The card (YtiachjnplgpegaaDoorCards.lean) ties it to the program's text. -/
def laid_loop_example_turtlewalks_impl_directions {H : Type} : DataW H := .agg [.agg [.lit (.int .i64 1), .lit (.int .i64 0)], .agg [.lit (.int .i64 0), .lit (.int .i64 1)], .agg [.lit (.int .i64 (-1)), .lit (.int .i64 0)], .agg [.lit (.int .i64 0), .lit (.int .i64 (-1))]]

/-- 'laws.FnExactBothOf': WHATEVER THE INPUT: true; the input reads as it did. -/
def fnExactBothOfSpec : ChangeSpec := { name := "fnExactBothOf", vars := ["loop.example/turtlewalks/impl.directions"], fn := fun _ => fun
  | [d1, d2, g1] => { results := [.lit (.bool true)], args := [d1, d2], vars := [g1] }
  | _ => none }
def fnExactBothOfRow : OpenClaim := { program := "ytiachjnplgpegaadoor", sum := "ad743c2be79d40297e86b03ba587c7144d6571dffb9ffe7f5d6a2a7a743ae666", func := "loop.example/turtlewalks/laws.FnExactBothOf", spec := "fnExactBothOf", inPlace := ["internal/bytealg.IndexByteString"], named := ["loop.example/turtlewalks/impl.directions"], plainKeys := false, apart := false, laid := [("loop.example/turtlewalks/impl.directions", laid_loop_example_turtlewalks_impl_directions)] }
def FnExactBothOfSaid : Prop := fnExactBothOfRow.holds Tryd.pinned (OpenSpec.ofChange fnExactBothOfSpec)

/-- ITS FALSE NEIGHBOUR: 'it returns false'. Refute it at one input. -/
def fnExactBothOfWrong : ChangeSpec := { name := "fnExactBothOf", vars := ["loop.example/turtlewalks/impl.directions"], fn := fun _ => fun
  | [d1, d2, g1] => { results := [.lit (.bool false)], args := [d1, d2], vars := [g1] }
  | _ => none }
def FnExactBothOfWrongFalsely : Prop := fnExactBothOfRow.holds Tryd.pinned (OpenSpec.ofChange fnExactBothOfWrong)

/-- 'laws.FnExactAreaOf': WHATEVER THE INPUT: true; the input reads as it did. -/
def fnExactAreaOfSpec : ChangeSpec := { name := "fnExactAreaOf", vars := ["loop.example/turtlewalks/impl.directions"], fn := fun _ => fun
  | [d, g1] => { results := [.lit (.bool true)], args := [d], vars := [g1] }
  | _ => none }
def fnExactAreaOfRow : OpenClaim := { program := "ytiachjnplgpegaadoor", sum := "ad743c2be79d40297e86b03ba587c7144d6571dffb9ffe7f5d6a2a7a743ae666", func := "loop.example/turtlewalks/laws.FnExactAreaOf", spec := "fnExactAreaOf", inPlace := ["internal/bytealg.IndexByteString"], named := ["loop.example/turtlewalks/impl.directions"], plainKeys := false, apart := false, laid := [("loop.example/turtlewalks/impl.directions", laid_loop_example_turtlewalks_impl_directions)] }
def FnExactAreaOfSaid : Prop := fnExactAreaOfRow.holds Tryd.pinned (OpenSpec.ofChange fnExactAreaOfSpec)

/-- ITS FALSE NEIGHBOUR: 'it returns false'. Refute it at one input. -/
def fnExactAreaOfWrong : ChangeSpec := { name := "fnExactAreaOf", vars := ["loop.example/turtlewalks/impl.directions"], fn := fun _ => fun
  | [d, g1] => { results := [.lit (.bool false)], args := [d], vars := [g1] }
  | _ => none }
def FnExactAreaOfWrongFalsely : Prop := fnExactAreaOfRow.holds Tryd.pinned (OpenSpec.ofChange fnExactAreaOfWrong)

/-- 'laws.FnExactWindingOf': WHATEVER THE INPUT: true; the input reads as it did. -/
def fnExactWindingOfSpec : ChangeSpec := { name := "fnExactWindingOf", vars := ["loop.example/turtlewalks/impl.directions"], fn := fun _ => fun
  | [d1, d2, d3, g1] => { results := [.lit (.bool true)], args := [d1, d2, d3], vars := [g1] }
  | _ => none }
def fnExactWindingOfRow : OpenClaim := { program := "ytiachjnplgpegaadoor", sum := "ad743c2be79d40297e86b03ba587c7144d6571dffb9ffe7f5d6a2a7a743ae666", func := "loop.example/turtlewalks/laws.FnExactWindingOf", spec := "fnExactWindingOf", inPlace := ["internal/bytealg.IndexByteString"], named := ["loop.example/turtlewalks/impl.directions"], plainKeys := false, apart := false, laid := [("loop.example/turtlewalks/impl.directions", laid_loop_example_turtlewalks_impl_directions)] }
def FnExactWindingOfSaid : Prop := fnExactWindingOfRow.holds Tryd.pinned (OpenSpec.ofChange fnExactWindingOfSpec)

/-- ITS FALSE NEIGHBOUR: 'it returns false'. Refute it at one input. -/
def fnExactWindingOfWrong : ChangeSpec := { name := "fnExactWindingOf", vars := ["loop.example/turtlewalks/impl.directions"], fn := fun _ => fun
  | [d1, d2, d3, g1] => { results := [.lit (.bool false)], args := [d1, d2, d3], vars := [g1] }
  | _ => none }
def FnExactWindingOfWrongFalsely : Prop := fnExactWindingOfRow.holds Tryd.pinned (OpenSpec.ofChange fnExactWindingOfWrong)

/-- 'laws.FnExactWithinOk': WHATEVER THE INPUT: true; the input reads as it did. -/
def fnExactWithinOkSpec : ChangeSpec := { name := "fnExactWithinOk", vars := ["loop.example/turtlewalks/impl.directions"], fn := fun _ => fun
  | [d1, d2, d3, g1] => { results := [.lit (.bool true)], args := [d1, d2, d3], vars := [g1] }
  | _ => none }
def fnExactWithinOkRow : OpenClaim := { program := "ytiachjnplgpegaadoor", sum := "ad743c2be79d40297e86b03ba587c7144d6571dffb9ffe7f5d6a2a7a743ae666", func := "loop.example/turtlewalks/laws.FnExactWithinOk", spec := "fnExactWithinOk", inPlace := ["internal/bytealg.IndexByteString"], named := ["loop.example/turtlewalks/impl.directions"], plainKeys := false, apart := false, laid := [("loop.example/turtlewalks/impl.directions", laid_loop_example_turtlewalks_impl_directions)] }
def FnExactWithinOkSaid : Prop := fnExactWithinOkRow.holds Tryd.pinned (OpenSpec.ofChange fnExactWithinOkSpec)

/-- ITS FALSE NEIGHBOUR: 'it returns false'. Refute it at one input. -/
def fnExactWithinOkWrong : ChangeSpec := { name := "fnExactWithinOk", vars := ["loop.example/turtlewalks/impl.directions"], fn := fun _ => fun
  | [d1, d2, d3, g1] => { results := [.lit (.bool false)], args := [d1, d2, d3], vars := [g1] }
  | _ => none }
def FnExactWithinOkWrongFalsely : Prop := fnExactWithinOkRow.holds Tryd.pinned (OpenSpec.ofChange fnExactWithinOkWrong)

/-- 'laws.FnExactAllWindings': WHATEVER THE INPUT: true; the input reads as it did. -/
def fnExactAllWindingsSpec : ChangeSpec := { name := "fnExactAllWindings", vars := ["loop.example/turtlewalks/impl.directions"], fn := fun _ => fun
  | [d, g1] => { results := [.lit (.bool true)], args := [d], vars := [g1] }
  | _ => none }
def fnExactAllWindingsRow : OpenClaim := { program := "ytiachjnplgpegaadoor", sum := "ad743c2be79d40297e86b03ba587c7144d6571dffb9ffe7f5d6a2a7a743ae666", func := "loop.example/turtlewalks/laws.FnExactAllWindings", spec := "fnExactAllWindings", inPlace := ["internal/bytealg.IndexByteString"], named := ["loop.example/turtlewalks/impl.directions"], plainKeys := false, apart := false, laid := [("loop.example/turtlewalks/impl.directions", laid_loop_example_turtlewalks_impl_directions)] }
def FnExactAllWindingsSaid : Prop := fnExactAllWindingsRow.holds Tryd.pinned (OpenSpec.ofChange fnExactAllWindingsSpec)

/-- ITS FALSE NEIGHBOUR: 'it returns false'. Refute it at one input. -/
def fnExactAllWindingsWrong : ChangeSpec := { name := "fnExactAllWindings", vars := ["loop.example/turtlewalks/impl.directions"], fn := fun _ => fun
  | [d, g1] => { results := [.lit (.bool false)], args := [d], vars := [g1] }
  | _ => none }
def FnExactAllWindingsWrongFalsely : Prop := fnExactAllWindingsRow.holds Tryd.pinned (OpenSpec.ofChange fnExactAllWindingsWrong)

/-- 'laws.FnExactMostWinding': WHATEVER THE INPUT: true; the input reads as it did. -/
def fnExactMostWindingSpec : ChangeSpec := { name := "fnExactMostWinding", vars := ["loop.example/turtlewalks/impl.directions"], fn := fun _ => fun
  | [d, g1] => { results := [.lit (.bool true)], args := [d], vars := [g1] }
  | _ => none }
def fnExactMostWindingRow : OpenClaim := { program := "ytiachjnplgpegaadoor", sum := "ad743c2be79d40297e86b03ba587c7144d6571dffb9ffe7f5d6a2a7a743ae666", func := "loop.example/turtlewalks/laws.FnExactMostWinding", spec := "fnExactMostWinding", inPlace := ["internal/bytealg.IndexByteString"], named := ["loop.example/turtlewalks/impl.directions"], plainKeys := false, apart := false, laid := [("loop.example/turtlewalks/impl.directions", laid_loop_example_turtlewalks_impl_directions)] }
def FnExactMostWindingSaid : Prop := fnExactMostWindingRow.holds Tryd.pinned (OpenSpec.ofChange fnExactMostWindingSpec)

/-- ITS FALSE NEIGHBOUR: 'it returns false'. Refute it at one input. -/
def fnExactMostWindingWrong : ChangeSpec := { name := "fnExactMostWinding", vars := ["loop.example/turtlewalks/impl.directions"], fn := fun _ => fun
  | [d, g1] => { results := [.lit (.bool false)], args := [d], vars := [g1] }
  | _ => none }
def FnExactMostWindingWrongFalsely : Prop := fnExactMostWindingRow.holds Tryd.pinned (OpenSpec.ofChange fnExactMostWindingWrong)

/- THE SECOND FORM. 'bulk': how many values and letters a reading holds, each counted each time it is reached (what is shared counts as often as it is met; a slice's spare places count too). A statement '..UptoSaid' is the law's where the arguments, and the package variables that the reading takes, are together of bulk at most 1048576: NARROWER than '..Said'. Prove '..Said' where nothing that the law and all that it calls make is longer than what came in: it says more and counts as full. Else prove '..UptoSaid'. A law counts once. -/
mutual
def uptoBulk {H : Type} : DataW H → Nat
  | .lit (.string bytes) => bytes.length + 1
  | .lit _ => 1
  | .nil => 1
  | .ptr d => uptoBulk d + 1
  | .slice elems spare => uptoBulkAll elems + uptoBulkAll spare + 1
  | .agg parts => uptoBulkAll parts + 1
  | .iface _ d => uptoBulk d + 1
  | .map entries => uptoBulkEntries entries + 1
  | .held _ => 1
def uptoBulkAll {H : Type} : List (DataW H) → Nat
  | [] => 0
  | d :: r => uptoBulk d + uptoBulkAll r
def uptoBulkEntries {H : Type} : List (Lit × DataW H) → Nat
  | [] => 0
  | x :: r => uptoBulkEntry x + uptoBulkEntries r
def uptoBulkEntry {H : Type} : Lit × DataW H → Nat
  | (.string bytes, d) => bytes.length + uptoBulk d + 1
  | (_, d) => uptoBulk d + 1
 end
def uptoSmall : (H : Type) → List (DataW H) → Bool := fun _ ds => decide (uptoBulkAll ds ≤ 1048576)
def OpenSpec.upto (s : _root_.Go.ChangeSpec) : _root_.Go.OpenSpec := { _root_.Go.OpenSpec.ofChange s with cond := some uptoSmall }

/-- 'laws.FnExactBothOf', WHERE WHAT IT READS IS OF BULK AT MOST 1048576: true; the input reads as it did. -/
def fnExactBothOfUptoRow : OpenClaim := { program := "ytiachjnplgpegaadoor", sum := "ad743c2be79d40297e86b03ba587c7144d6571dffb9ffe7f5d6a2a7a743ae666", func := "loop.example/turtlewalks/laws.FnExactBothOf", spec := "fnExactBothOf", inPlace := ["internal/bytealg.IndexByteString"], named := ["loop.example/turtlewalks/impl.directions"], plainKeys := false, apart := false, laid := [("loop.example/turtlewalks/impl.directions", laid_loop_example_turtlewalks_impl_directions)], narrowed := true }
def FnExactBothOfUptoSaid : Prop := fnExactBothOfUptoRow.holds Tryd.pinned (OpenSpec.upto fnExactBothOfSpec)

/-- 'laws.FnExactAreaOf', WHERE WHAT IT READS IS OF BULK AT MOST 1048576: true; the input reads as it did. -/
def fnExactAreaOfUptoRow : OpenClaim := { program := "ytiachjnplgpegaadoor", sum := "ad743c2be79d40297e86b03ba587c7144d6571dffb9ffe7f5d6a2a7a743ae666", func := "loop.example/turtlewalks/laws.FnExactAreaOf", spec := "fnExactAreaOf", inPlace := ["internal/bytealg.IndexByteString"], named := ["loop.example/turtlewalks/impl.directions"], plainKeys := false, apart := false, laid := [("loop.example/turtlewalks/impl.directions", laid_loop_example_turtlewalks_impl_directions)], narrowed := true }
def FnExactAreaOfUptoSaid : Prop := fnExactAreaOfUptoRow.holds Tryd.pinned (OpenSpec.upto fnExactAreaOfSpec)

/-- 'laws.FnExactWindingOf', WHERE WHAT IT READS IS OF BULK AT MOST 1048576: true; the input reads as it did. -/
def fnExactWindingOfUptoRow : OpenClaim := { program := "ytiachjnplgpegaadoor", sum := "ad743c2be79d40297e86b03ba587c7144d6571dffb9ffe7f5d6a2a7a743ae666", func := "loop.example/turtlewalks/laws.FnExactWindingOf", spec := "fnExactWindingOf", inPlace := ["internal/bytealg.IndexByteString"], named := ["loop.example/turtlewalks/impl.directions"], plainKeys := false, apart := false, laid := [("loop.example/turtlewalks/impl.directions", laid_loop_example_turtlewalks_impl_directions)], narrowed := true }
def FnExactWindingOfUptoSaid : Prop := fnExactWindingOfUptoRow.holds Tryd.pinned (OpenSpec.upto fnExactWindingOfSpec)

/-- 'laws.FnExactWithinOk', WHERE WHAT IT READS IS OF BULK AT MOST 1048576: true; the input reads as it did. -/
def fnExactWithinOkUptoRow : OpenClaim := { program := "ytiachjnplgpegaadoor", sum := "ad743c2be79d40297e86b03ba587c7144d6571dffb9ffe7f5d6a2a7a743ae666", func := "loop.example/turtlewalks/laws.FnExactWithinOk", spec := "fnExactWithinOk", inPlace := ["internal/bytealg.IndexByteString"], named := ["loop.example/turtlewalks/impl.directions"], plainKeys := false, apart := false, laid := [("loop.example/turtlewalks/impl.directions", laid_loop_example_turtlewalks_impl_directions)], narrowed := true }
def FnExactWithinOkUptoSaid : Prop := fnExactWithinOkUptoRow.holds Tryd.pinned (OpenSpec.upto fnExactWithinOkSpec)

/-- 'laws.FnExactAllWindings', WHERE WHAT IT READS IS OF BULK AT MOST 1048576: true; the input reads as it did. -/
def fnExactAllWindingsUptoRow : OpenClaim := { program := "ytiachjnplgpegaadoor", sum := "ad743c2be79d40297e86b03ba587c7144d6571dffb9ffe7f5d6a2a7a743ae666", func := "loop.example/turtlewalks/laws.FnExactAllWindings", spec := "fnExactAllWindings", inPlace := ["internal/bytealg.IndexByteString"], named := ["loop.example/turtlewalks/impl.directions"], plainKeys := false, apart := false, laid := [("loop.example/turtlewalks/impl.directions", laid_loop_example_turtlewalks_impl_directions)], narrowed := true }
def FnExactAllWindingsUptoSaid : Prop := fnExactAllWindingsUptoRow.holds Tryd.pinned (OpenSpec.upto fnExactAllWindingsSpec)

/-- 'laws.FnExactMostWinding', WHERE WHAT IT READS IS OF BULK AT MOST 1048576: true; the input reads as it did. -/
def fnExactMostWindingUptoRow : OpenClaim := { program := "ytiachjnplgpegaadoor", sum := "ad743c2be79d40297e86b03ba587c7144d6571dffb9ffe7f5d6a2a7a743ae666", func := "loop.example/turtlewalks/laws.FnExactMostWinding", spec := "fnExactMostWinding", inPlace := ["internal/bytealg.IndexByteString"], named := ["loop.example/turtlewalks/impl.directions"], plainKeys := false, apart := false, laid := [("loop.example/turtlewalks/impl.directions", laid_loop_example_turtlewalks_impl_directions)], narrowed := true }
def FnExactMostWindingUptoSaid : Prop := fnExactMostWindingUptoRow.holds Tryd.pinned (OpenSpec.upto fnExactMostWindingSpec)

end Rows
end Go.Proofs.YtiachjnplgpegaaDoor
