/-
  NARROWER THAN 'FOR EVERY INPUT', by the rows' own cells (each row's printed sentence says how): FnMostWinding: laid · FnSquaresIn: laid · FnCrossingsIn: laid · FnExactSquaresIn: laid · FnExactCrossingsIn: laid · FnAllWindings: laid.
  DERIVED. THE GIVEN ROWS OF THIS SEAT. 6 by the template 'for every input the law returns true; each argument reads behind the call as it read before'; 0 by the template 'total and deterministic' (their statements: YtkfmppjljdhogaaDoorTotals.lean).
  GIVEN WITH THE SEED: the statements are not yours to turn. If you find one false, say at which input.
  Laid BY PROGRAM, IN A SANDBOX (cutbox-rows.mjs): the forced cells as the released guide's own fill.sh prints them over the translation 4a3e8d5418ee0271… (all of the seat's roots in one cut). By AI agents, Wed Nov 11 2026. No macro, syntax, notation, axiom, sorry.
-/
import Derived.Test.YtkfmppjljdhogaaDoorChecked
import GoSem.Claim
import GoSem.ClaimJoined
import GoSem.ClaimMapViews
import Derived.JoinedTies
import Derived.KernelRfl
namespace Go.Proofs.YtkfmppjljdhogaaDoor
/- THE CELL 'sum', in the pinned program and in every row, IS THE sha256 OF THE DUMP (.gsa) THAT YtkfmppjljdhogaaDoorProg.lean LOADS. Nothing in Lean hashes anything: it is a label: what it is worth is what the hold of that sum in a sandbox is worth. -/
noncomputable def Tryd.pinned : Pinned := { name := "ytkfmppjljdhogaadoor", sum := "4a3e8d5418ee0271c6b974b6fc1690ec056edae89d4d25e65bab2da7c18735eb", checked := Tryd.checked }
namespace Rows
def none {H : Type} : Left H := { results := [], args := [] }

/- WHAT THE LISTED PACKAGE-LEVEL VARIABLES READ AS WHEN THE CALL BEGINS. Each datum BY PROGRAM (the guide's laid-datum.mjs) off the statement by which the dump's own 'gosem.cut.vars' lays the variable. In a bare row this is a premise. The card (YtkfmppjljdhogaaDoorCards.lean) ties it to the program's text. -/
def laid_loop_example_turtlewalks_impl_directions {H : Type} : DataW H := .agg [.agg [.lit (.int .i64 1), .lit (.int .i64 0)], .agg [.lit (.int .i64 0), .lit (.int .i64 1)], .agg [.lit (.int .i64 (-1)), .lit (.int .i64 0)], .agg [.lit (.int .i64 0), .lit (.int .i64 (-1))]]

/-- 'laws.FnMostWinding': WHATEVER THE INPUT: true; the input reads as it did. -/
def fnMostWindingSpec : ChangeSpec := { name := "fnMostWinding", vars := ["loop.example/turtlewalks/impl.directions"], fn := fun _ => fun
  | [d, g1] => { results := [.lit (.bool true)], args := [d], vars := [g1] }
  | _ => none }
def fnMostWindingRow : OpenClaim := { program := "ytkfmppjljdhogaadoor", sum := "4a3e8d5418ee0271c6b974b6fc1690ec056edae89d4d25e65bab2da7c18735eb", func := "loop.example/turtlewalks/laws.FnMostWinding", spec := "fnMostWinding", inPlace := ["internal/bytealg.IndexByteString"], named := ["loop.example/turtlewalks/impl.directions"], plainKeys := false, apart := false, laid := [("loop.example/turtlewalks/impl.directions", laid_loop_example_turtlewalks_impl_directions)] }
def FnMostWindingSaid : Prop := fnMostWindingRow.holds Tryd.pinned (OpenSpec.ofChange fnMostWindingSpec)

/-- ITS FALSE NEIGHBOUR: 'it returns false'. Refute it at one input. -/
def fnMostWindingWrong : ChangeSpec := { name := "fnMostWinding", vars := ["loop.example/turtlewalks/impl.directions"], fn := fun _ => fun
  | [d, g1] => { results := [.lit (.bool false)], args := [d], vars := [g1] }
  | _ => none }
def FnMostWindingWrongFalsely : Prop := fnMostWindingRow.holds Tryd.pinned (OpenSpec.ofChange fnMostWindingWrong)

/-- 'laws.FnSquaresIn': WHATEVER THE INPUT: true; the input reads as it did. -/
def fnSquaresInSpec : ChangeSpec := { name := "fnSquaresIn", vars := ["loop.example/turtlewalks/impl.directions"], fn := fun _ => fun
  | [d, g1] => { results := [.lit (.bool true)], args := [d], vars := [g1] }
  | _ => none }
def fnSquaresInRow : OpenClaim := { program := "ytkfmppjljdhogaadoor", sum := "4a3e8d5418ee0271c6b974b6fc1690ec056edae89d4d25e65bab2da7c18735eb", func := "loop.example/turtlewalks/laws.FnSquaresIn", spec := "fnSquaresIn", inPlace := ["internal/bytealg.IndexByteString"], unfollowed := true, recurses := true, named := ["loop.example/turtlewalks/impl.directions"], plainKeys := false, apart := false, laid := [("loop.example/turtlewalks/impl.directions", laid_loop_example_turtlewalks_impl_directions)] }
def FnSquaresInSaid : Prop := fnSquaresInRow.holds Tryd.pinned (OpenSpec.ofChange fnSquaresInSpec)

/-- ITS FALSE NEIGHBOUR: 'it returns false'. Refute it at one input. -/
def fnSquaresInWrong : ChangeSpec := { name := "fnSquaresIn", vars := ["loop.example/turtlewalks/impl.directions"], fn := fun _ => fun
  | [d, g1] => { results := [.lit (.bool false)], args := [d], vars := [g1] }
  | _ => none }
def FnSquaresInWrongFalsely : Prop := fnSquaresInRow.holds Tryd.pinned (OpenSpec.ofChange fnSquaresInWrong)

/-- 'laws.FnCrossingsIn': WHATEVER THE INPUT: true; the input reads as it did. -/
def fnCrossingsInSpec : ChangeSpec := { name := "fnCrossingsIn", vars := ["loop.example/turtlewalks/impl.directions"], fn := fun _ => fun
  | [d, g1] => { results := [.lit (.bool true)], args := [d], vars := [g1] }
  | _ => none }
def fnCrossingsInRow : OpenClaim := { program := "ytkfmppjljdhogaadoor", sum := "4a3e8d5418ee0271c6b974b6fc1690ec056edae89d4d25e65bab2da7c18735eb", func := "loop.example/turtlewalks/laws.FnCrossingsIn", spec := "fnCrossingsIn", inPlace := ["internal/bytealg.IndexByteString"], unfollowed := true, recurses := true, named := ["loop.example/turtlewalks/impl.directions"], plainKeys := false, apart := false, laid := [("loop.example/turtlewalks/impl.directions", laid_loop_example_turtlewalks_impl_directions)] }
def FnCrossingsInSaid : Prop := fnCrossingsInRow.holds Tryd.pinned (OpenSpec.ofChange fnCrossingsInSpec)

/-- ITS FALSE NEIGHBOUR: 'it returns false'. Refute it at one input. -/
def fnCrossingsInWrong : ChangeSpec := { name := "fnCrossingsIn", vars := ["loop.example/turtlewalks/impl.directions"], fn := fun _ => fun
  | [d, g1] => { results := [.lit (.bool false)], args := [d], vars := [g1] }
  | _ => none }
def FnCrossingsInWrongFalsely : Prop := fnCrossingsInRow.holds Tryd.pinned (OpenSpec.ofChange fnCrossingsInWrong)

/-- 'laws.FnExactSquaresIn': WHATEVER THE INPUT: true; the input reads as it did. -/
def fnExactSquaresInSpec : ChangeSpec := { name := "fnExactSquaresIn", vars := ["loop.example/turtlewalks/impl.directions"], fn := fun _ => fun
  | [d, g1] => { results := [.lit (.bool true)], args := [d], vars := [g1] }
  | _ => none }
def fnExactSquaresInRow : OpenClaim := { program := "ytkfmppjljdhogaadoor", sum := "4a3e8d5418ee0271c6b974b6fc1690ec056edae89d4d25e65bab2da7c18735eb", func := "loop.example/turtlewalks/laws.FnExactSquaresIn", spec := "fnExactSquaresIn", inPlace := ["internal/bytealg.IndexByteString"], unfollowed := true, recurses := true, named := ["loop.example/turtlewalks/impl.directions"], plainKeys := false, apart := false, laid := [("loop.example/turtlewalks/impl.directions", laid_loop_example_turtlewalks_impl_directions)] }
def FnExactSquaresInSaid : Prop := fnExactSquaresInRow.holds Tryd.pinned (OpenSpec.ofChange fnExactSquaresInSpec)

/-- ITS FALSE NEIGHBOUR: 'it returns false'. Refute it at one input. -/
def fnExactSquaresInWrong : ChangeSpec := { name := "fnExactSquaresIn", vars := ["loop.example/turtlewalks/impl.directions"], fn := fun _ => fun
  | [d, g1] => { results := [.lit (.bool false)], args := [d], vars := [g1] }
  | _ => none }
def FnExactSquaresInWrongFalsely : Prop := fnExactSquaresInRow.holds Tryd.pinned (OpenSpec.ofChange fnExactSquaresInWrong)

/-- 'laws.FnExactCrossingsIn': WHATEVER THE INPUT: true; the input reads as it did. -/
def fnExactCrossingsInSpec : ChangeSpec := { name := "fnExactCrossingsIn", vars := ["loop.example/turtlewalks/impl.directions"], fn := fun _ => fun
  | [d, g1] => { results := [.lit (.bool true)], args := [d], vars := [g1] }
  | _ => none }
def fnExactCrossingsInRow : OpenClaim := { program := "ytkfmppjljdhogaadoor", sum := "4a3e8d5418ee0271c6b974b6fc1690ec056edae89d4d25e65bab2da7c18735eb", func := "loop.example/turtlewalks/laws.FnExactCrossingsIn", spec := "fnExactCrossingsIn", inPlace := ["internal/bytealg.IndexByteString"], unfollowed := true, recurses := true, named := ["loop.example/turtlewalks/impl.directions"], plainKeys := false, apart := false, laid := [("loop.example/turtlewalks/impl.directions", laid_loop_example_turtlewalks_impl_directions)] }
def FnExactCrossingsInSaid : Prop := fnExactCrossingsInRow.holds Tryd.pinned (OpenSpec.ofChange fnExactCrossingsInSpec)

/-- ITS FALSE NEIGHBOUR: 'it returns false'. Refute it at one input. -/
def fnExactCrossingsInWrong : ChangeSpec := { name := "fnExactCrossingsIn", vars := ["loop.example/turtlewalks/impl.directions"], fn := fun _ => fun
  | [d, g1] => { results := [.lit (.bool false)], args := [d], vars := [g1] }
  | _ => none }
def FnExactCrossingsInWrongFalsely : Prop := fnExactCrossingsInRow.holds Tryd.pinned (OpenSpec.ofChange fnExactCrossingsInWrong)

/-- 'laws.FnAllWindings': WHATEVER THE INPUT: true; the input reads as it did. -/
def fnAllWindingsSpec : ChangeSpec := { name := "fnAllWindings", vars := ["loop.example/turtlewalks/impl.directions"], fn := fun _ => fun
  | [d, g1] => { results := [.lit (.bool true)], args := [d], vars := [g1] }
  | _ => none }
def fnAllWindingsRow : OpenClaim := { program := "ytkfmppjljdhogaadoor", sum := "4a3e8d5418ee0271c6b974b6fc1690ec056edae89d4d25e65bab2da7c18735eb", func := "loop.example/turtlewalks/laws.FnAllWindings", spec := "fnAllWindings", inPlace := ["internal/bytealg.IndexByteString"], named := ["loop.example/turtlewalks/impl.directions"], plainKeys := false, apart := false, laid := [("loop.example/turtlewalks/impl.directions", laid_loop_example_turtlewalks_impl_directions)] }
def FnAllWindingsSaid : Prop := fnAllWindingsRow.holds Tryd.pinned (OpenSpec.ofChange fnAllWindingsSpec)

/-- ITS FALSE NEIGHBOUR: 'it returns false'. Refute it at one input. -/
def fnAllWindingsWrong : ChangeSpec := { name := "fnAllWindings", vars := ["loop.example/turtlewalks/impl.directions"], fn := fun _ => fun
  | [d, g1] => { results := [.lit (.bool false)], args := [d], vars := [g1] }
  | _ => none }
def FnAllWindingsWrongFalsely : Prop := fnAllWindingsRow.holds Tryd.pinned (OpenSpec.ofChange fnAllWindingsWrong)

/- THE SECOND FORM. 'bulk': how many values and letters a reading holds, each counted each time it is reached (what is shared counts as often as it is met; a slice's spare places count too). A statement '..UptoSaid' is the law's where the arguments, and the package variables that the reading takes, are together of bulk at most 1048576: NARROWER than '..Said'. Prove '..Said' where nothing that the law and all that it calls make is longer than what came in: it says more and counts as full. Else prove '..UptoSaid'. A law counts once. -/
mutual
def uptoBulk {H : Type} : DataW H → Nat
  | .lit (.string bytes) => bytes.length + 1
  | .lit _ => 1
  | .nil => 1
  | .ptr d => uptoBulk d + 1
  | .slice elems spare => uptoBulkAll elems + uptoBulkAll spare + 1
  | .agg parts => uptoBulkAll parts + 1
  | .iface _ d => uptoBulk d + 1
  | .map entries => uptoBulkEntries entries + 1
  | .held _ => 1
def uptoBulkAll {H : Type} : List (DataW H) → Nat
  | [] => 0
  | d :: r => uptoBulk d + uptoBulkAll r
def uptoBulkEntries {H : Type} : List (Lit × DataW H) → Nat
  | [] => 0
  | x :: r => uptoBulkEntry x + uptoBulkEntries r
def uptoBulkEntry {H : Type} : Lit × DataW H → Nat
  | (.string bytes, d) => bytes.length + uptoBulk d + 1
  | (_, d) => uptoBulk d + 1
 end
def uptoSmall : (H : Type) → List (DataW H) → Bool := fun _ ds => decide (uptoBulkAll ds ≤ 1048576)
def OpenSpec.upto (s : _root_.Go.ChangeSpec) : _root_.Go.OpenSpec := { _root_.Go.OpenSpec.ofChange s with cond := some uptoSmall }

/-- 'laws.FnMostWinding', WHERE WHAT IT READS IS OF BULK AT MOST 1048576: true; the input reads as it did. -/
def fnMostWindingUptoRow : OpenClaim := { program := "ytkfmppjljdhogaadoor", sum := "4a3e8d5418ee0271c6b974b6fc1690ec056edae89d4d25e65bab2da7c18735eb", func := "loop.example/turtlewalks/laws.FnMostWinding", spec := "fnMostWinding", inPlace := ["internal/bytealg.IndexByteString"], named := ["loop.example/turtlewalks/impl.directions"], plainKeys := false, apart := false, laid := [("loop.example/turtlewalks/impl.directions", laid_loop_example_turtlewalks_impl_directions)], narrowed := true }
def FnMostWindingUptoSaid : Prop := fnMostWindingUptoRow.holds Tryd.pinned (OpenSpec.upto fnMostWindingSpec)

/-- 'laws.FnSquaresIn', WHERE WHAT IT READS IS OF BULK AT MOST 1048576: true; the input reads as it did. -/
def fnSquaresInUptoRow : OpenClaim := { program := "ytkfmppjljdhogaadoor", sum := "4a3e8d5418ee0271c6b974b6fc1690ec056edae89d4d25e65bab2da7c18735eb", func := "loop.example/turtlewalks/laws.FnSquaresIn", spec := "fnSquaresIn", inPlace := ["internal/bytealg.IndexByteString"], unfollowed := true, recurses := true, named := ["loop.example/turtlewalks/impl.directions"], plainKeys := false, apart := false, laid := [("loop.example/turtlewalks/impl.directions", laid_loop_example_turtlewalks_impl_directions)], narrowed := true }
def FnSquaresInUptoSaid : Prop := fnSquaresInUptoRow.holds Tryd.pinned (OpenSpec.upto fnSquaresInSpec)

/-- 'laws.FnCrossingsIn', WHERE WHAT IT READS IS OF BULK AT MOST 1048576: true; the input reads as it did. -/
def fnCrossingsInUptoRow : OpenClaim := { program := "ytkfmppjljdhogaadoor", sum := "4a3e8d5418ee0271c6b974b6fc1690ec056edae89d4d25e65bab2da7c18735eb", func := "loop.example/turtlewalks/laws.FnCrossingsIn", spec := "fnCrossingsIn", inPlace := ["internal/bytealg.IndexByteString"], unfollowed := true, recurses := true, named := ["loop.example/turtlewalks/impl.directions"], plainKeys := false, apart := false, laid := [("loop.example/turtlewalks/impl.directions", laid_loop_example_turtlewalks_impl_directions)], narrowed := true }
def FnCrossingsInUptoSaid : Prop := fnCrossingsInUptoRow.holds Tryd.pinned (OpenSpec.upto fnCrossingsInSpec)

/-- 'laws.FnExactSquaresIn', WHERE WHAT IT READS IS OF BULK AT MOST 1048576: true; the input reads as it did. -/
def fnExactSquaresInUptoRow : OpenClaim := { program := "ytkfmppjljdhogaadoor", sum := "4a3e8d5418ee0271c6b974b6fc1690ec056edae89d4d25e65bab2da7c18735eb", func := "loop.example/turtlewalks/laws.FnExactSquaresIn", spec := "fnExactSquaresIn", inPlace := ["internal/bytealg.IndexByteString"], unfollowed := true, recurses := true, named := ["loop.example/turtlewalks/impl.directions"], plainKeys := false, apart := false, laid := [("loop.example/turtlewalks/impl.directions", laid_loop_example_turtlewalks_impl_directions)], narrowed := true }
def FnExactSquaresInUptoSaid : Prop := fnExactSquaresInUptoRow.holds Tryd.pinned (OpenSpec.upto fnExactSquaresInSpec)

/-- 'laws.FnExactCrossingsIn', WHERE WHAT IT READS IS OF BULK AT MOST 1048576: true; the input reads as it did. -/
def fnExactCrossingsInUptoRow : OpenClaim := { program := "ytkfmppjljdhogaadoor", sum := "4a3e8d5418ee0271c6b974b6fc1690ec056edae89d4d25e65bab2da7c18735eb", func := "loop.example/turtlewalks/laws.FnExactCrossingsIn", spec := "fnExactCrossingsIn", inPlace := ["internal/bytealg.IndexByteString"], unfollowed := true, recurses := true, named := ["loop.example/turtlewalks/impl.directions"], plainKeys := false, apart := false, laid := [("loop.example/turtlewalks/impl.directions", laid_loop_example_turtlewalks_impl_directions)], narrowed := true }
def FnExactCrossingsInUptoSaid : Prop := fnExactCrossingsInUptoRow.holds Tryd.pinned (OpenSpec.upto fnExactCrossingsInSpec)

/-- 'laws.FnAllWindings', WHERE WHAT IT READS IS OF BULK AT MOST 1048576: true; the input reads as it did. -/
def fnAllWindingsUptoRow : OpenClaim := { program := "ytkfmppjljdhogaadoor", sum := "4a3e8d5418ee0271c6b974b6fc1690ec056edae89d4d25e65bab2da7c18735eb", func := "loop.example/turtlewalks/laws.FnAllWindings", spec := "fnAllWindings", inPlace := ["internal/bytealg.IndexByteString"], named := ["loop.example/turtlewalks/impl.directions"], plainKeys := false, apart := false, laid := [("loop.example/turtlewalks/impl.directions", laid_loop_example_turtlewalks_impl_directions)], narrowed := true }
def FnAllWindingsUptoSaid : Prop := fnAllWindingsUptoRow.holds Tryd.pinned (OpenSpec.upto fnAllWindingsSpec)

end Rows
end Go.Proofs.YtkfmppjljdhogaaDoor
