/-
  NARROWER THAN 'FOR EVERY INPUT', by the rows' own cells (each row's printed sentence says how): FnExactSpiralRounds: laid · FnExactGoingOff: laid · FnSpiralRounds: laid · FnExactClosedSpirals: laid · FnGoingOff: laid.
  DERIVED. THE GIVEN ROWS OF THIS SEAT. 5 by the template 'for every input the law returns true; each argument reads behind the call as it read before'; 0 by the template 'total and deterministic' (their statements: YtbeacmealippmaaDoorTotals.lean).
  GIVEN WITH THE SEED: the statements are not yours to turn. If you find one false, say at which input.
  Laid BY PROGRAM, IN A SANDBOX (cutbox-rows.mjs): the forced cells as the released guide's own fill.sh prints them over the translation 70c585e7b3d7e954… (all of the seat's roots in one cut). By AI agents, Wed Nov 11 2026. No macro, syntax, notation, axiom, sorry.
-/
import Derived.Test.YtbeacmealippmaaDoorChecked
import GoSem.Claim
import GoSem.ClaimJoined
import GoSem.ClaimMapViews
import Derived.JoinedTies
import Derived.KernelRfl
namespace Go.Proofs.YtbeacmealippmaaDoor
/- THE CELL 'sum', in the pinned program and in every row, IS THE sha256 OF THE DUMP (.gsa) THAT YtbeacmealippmaaDoorProg.lean LOADS. Nothing in Lean hashes anything: it is a label: what it is worth is what the hold of that sum in a sandbox is worth. -/
noncomputable def Tryd.pinned : Pinned := { name := "ytbeacmealippmaadoor", sum := "70c585e7b3d7e954cd3e08328c49b8ca6417b6117bea37b5bc03b5c245179116", checked := Tryd.checked }
namespace Rows
def none {H : Type} : Left H := { results := [], args := [] }

/- WHAT THE LISTED PACKAGE-LEVEL VARIABLES READ AS WHEN THE CALL BEGINS. Each datum BY PROGRAM (the guide's laid-datum.mjs) off the statement by which the dump's own 'gosem.cut.vars' lays the variable. In a bare row this is a premise. The card (YtbeacmealippmaaDoorCards.lean) ties it to the program's text. -/
def laid_loop_example_turtlewalks_impl_directions {H : Type} : DataW H := .agg [.agg [.lit (.int .i64 1), .lit (.int .i64 0)], .agg [.lit (.int .i64 0), .lit (.int .i64 1)], .agg [.lit (.int .i64 (-1)), .lit (.int .i64 0)], .agg [.lit (.int .i64 0), .lit (.int .i64 (-1))]]

/-- 'laws.FnExactSpiralRounds': WHATEVER THE INPUT: true; the input reads as it did. -/
def fnExactSpiralRoundsSpec : ChangeSpec := { name := "fnExactSpiralRounds", vars := ["loop.example/turtlewalks/impl.directions"], fn := fun _ => fun
  | [d1, d2, g1] => { results := [.lit (.bool true)], args := [d1, d2], vars := [g1] }
  | _ => none }
def fnExactSpiralRoundsRow : OpenClaim := { program := "ytbeacmealippmaadoor", sum := "70c585e7b3d7e954cd3e08328c49b8ca6417b6117bea37b5bc03b5c245179116", func := "loop.example/turtlewalks/laws.FnExactSpiralRounds", spec := "fnExactSpiralRounds", inPlace := ["internal/abi.NoEscape"], unfollowed := true, recurses := true, named := ["loop.example/turtlewalks/impl.directions"], apart := false, laid := [("loop.example/turtlewalks/impl.directions", laid_loop_example_turtlewalks_impl_directions)] }
def FnExactSpiralRoundsSaid : Prop := fnExactSpiralRoundsRow.holds Tryd.pinned (OpenSpec.ofChange fnExactSpiralRoundsSpec)

/-- ITS FALSE NEIGHBOUR: 'it returns false'. Refute it at one input. -/
def fnExactSpiralRoundsWrong : ChangeSpec := { name := "fnExactSpiralRounds", vars := ["loop.example/turtlewalks/impl.directions"], fn := fun _ => fun
  | [d1, d2, g1] => { results := [.lit (.bool false)], args := [d1, d2], vars := [g1] }
  | _ => none }
def FnExactSpiralRoundsWrongFalsely : Prop := fnExactSpiralRoundsRow.holds Tryd.pinned (OpenSpec.ofChange fnExactSpiralRoundsWrong)

/-- 'laws.FnExactGoingOff': WHATEVER THE INPUT: true; the input reads as it did. -/
def fnExactGoingOffSpec : ChangeSpec := { name := "fnExactGoingOff", vars := ["loop.example/turtlewalks/impl.directions"], fn := fun _ => fun
  | [d, g1] => { results := [.lit (.bool true)], args := [d], vars := [g1] }
  | _ => none }
def fnExactGoingOffRow : OpenClaim := { program := "ytbeacmealippmaadoor", sum := "70c585e7b3d7e954cd3e08328c49b8ca6417b6117bea37b5bc03b5c245179116", func := "loop.example/turtlewalks/laws.FnExactGoingOff", spec := "fnExactGoingOff", inPlace := ["internal/abi.NoEscape"], unfollowed := true, recurses := true, named := ["loop.example/turtlewalks/impl.directions"], apart := false, laid := [("loop.example/turtlewalks/impl.directions", laid_loop_example_turtlewalks_impl_directions)] }
def FnExactGoingOffSaid : Prop := fnExactGoingOffRow.holds Tryd.pinned (OpenSpec.ofChange fnExactGoingOffSpec)

/-- ITS FALSE NEIGHBOUR: 'it returns false'. Refute it at one input. -/
def fnExactGoingOffWrong : ChangeSpec := { name := "fnExactGoingOff", vars := ["loop.example/turtlewalks/impl.directions"], fn := fun _ => fun
  | [d, g1] => { results := [.lit (.bool false)], args := [d], vars := [g1] }
  | _ => none }
def FnExactGoingOffWrongFalsely : Prop := fnExactGoingOffRow.holds Tryd.pinned (OpenSpec.ofChange fnExactGoingOffWrong)

/-- 'laws.FnSpiralRounds': WHATEVER THE INPUT: true; the input reads as it did. -/
def fnSpiralRoundsSpec : ChangeSpec := { name := "fnSpiralRounds", vars := ["loop.example/turtlewalks/impl.directions"], fn := fun _ => fun
  | [d, g1] => { results := [.lit (.bool true)], args := [d], vars := [g1] }
  | _ => none }
def fnSpiralRoundsRow : OpenClaim := { program := "ytbeacmealippmaadoor", sum := "70c585e7b3d7e954cd3e08328c49b8ca6417b6117bea37b5bc03b5c245179116", func := "loop.example/turtlewalks/laws.FnSpiralRounds", spec := "fnSpiralRounds", inPlace := ["internal/abi.NoEscape"], unfollowed := true, recurses := true, named := ["loop.example/turtlewalks/impl.directions"], apart := false, laid := [("loop.example/turtlewalks/impl.directions", laid_loop_example_turtlewalks_impl_directions)] }
def FnSpiralRoundsSaid : Prop := fnSpiralRoundsRow.holds Tryd.pinned (OpenSpec.ofChange fnSpiralRoundsSpec)

/-- ITS FALSE NEIGHBOUR: 'it returns false'. Refute it at one input. -/
def fnSpiralRoundsWrong : ChangeSpec := { name := "fnSpiralRounds", vars := ["loop.example/turtlewalks/impl.directions"], fn := fun _ => fun
  | [d, g1] => { results := [.lit (.bool false)], args := [d], vars := [g1] }
  | _ => none }
def FnSpiralRoundsWrongFalsely : Prop := fnSpiralRoundsRow.holds Tryd.pinned (OpenSpec.ofChange fnSpiralRoundsWrong)

/-- 'laws.FnExactClosedSpirals': WHATEVER THE INPUT: true; the input reads as it did. -/
def fnExactClosedSpiralsSpec : ChangeSpec := { name := "fnExactClosedSpirals", vars := ["loop.example/turtlewalks/impl.directions"], fn := fun _ => fun
  | [d, g1] => { results := [.lit (.bool true)], args := [d], vars := [g1] }
  | _ => none }
def fnExactClosedSpiralsRow : OpenClaim := { program := "ytbeacmealippmaadoor", sum := "70c585e7b3d7e954cd3e08328c49b8ca6417b6117bea37b5bc03b5c245179116", func := "loop.example/turtlewalks/laws.FnExactClosedSpirals", spec := "fnExactClosedSpirals", inPlace := ["internal/abi.NoEscape"], unfollowed := true, recurses := true, named := ["loop.example/turtlewalks/impl.directions"], apart := false, laid := [("loop.example/turtlewalks/impl.directions", laid_loop_example_turtlewalks_impl_directions)] }
def FnExactClosedSpiralsSaid : Prop := fnExactClosedSpiralsRow.holds Tryd.pinned (OpenSpec.ofChange fnExactClosedSpiralsSpec)

/-- ITS FALSE NEIGHBOUR: 'it returns false'. Refute it at one input. -/
def fnExactClosedSpiralsWrong : ChangeSpec := { name := "fnExactClosedSpirals", vars := ["loop.example/turtlewalks/impl.directions"], fn := fun _ => fun
  | [d, g1] => { results := [.lit (.bool false)], args := [d], vars := [g1] }
  | _ => none }
def FnExactClosedSpiralsWrongFalsely : Prop := fnExactClosedSpiralsRow.holds Tryd.pinned (OpenSpec.ofChange fnExactClosedSpiralsWrong)

/-- 'laws.FnGoingOff': WHATEVER THE INPUT: true; the input reads as it did. -/
def fnGoingOffSpec : ChangeSpec := { name := "fnGoingOff", vars := ["loop.example/turtlewalks/impl.directions"], fn := fun _ => fun
  | [d, g1] => { results := [.lit (.bool true)], args := [d], vars := [g1] }
  | _ => none }
def fnGoingOffRow : OpenClaim := { program := "ytbeacmealippmaadoor", sum := "70c585e7b3d7e954cd3e08328c49b8ca6417b6117bea37b5bc03b5c245179116", func := "loop.example/turtlewalks/laws.FnGoingOff", spec := "fnGoingOff", inPlace := ["internal/abi.NoEscape"], unfollowed := true, recurses := true, named := ["loop.example/turtlewalks/impl.directions"], apart := false, laid := [("loop.example/turtlewalks/impl.directions", laid_loop_example_turtlewalks_impl_directions)] }
def FnGoingOffSaid : Prop := fnGoingOffRow.holds Tryd.pinned (OpenSpec.ofChange fnGoingOffSpec)

/-- ITS FALSE NEIGHBOUR: 'it returns false'. Refute it at one input. -/
def fnGoingOffWrong : ChangeSpec := { name := "fnGoingOff", vars := ["loop.example/turtlewalks/impl.directions"], fn := fun _ => fun
  | [d, g1] => { results := [.lit (.bool false)], args := [d], vars := [g1] }
  | _ => none }
def FnGoingOffWrongFalsely : Prop := fnGoingOffRow.holds Tryd.pinned (OpenSpec.ofChange fnGoingOffWrong)

/- THE SECOND FORM. 'bulk': how many values and letters a reading holds, each counted each time it is reached (what is shared counts as often as it is met; a slice's spare places count too). A statement '..UptoSaid' is the law's where the arguments, and the package variables that the reading takes, are together of bulk at most 1048576: NARROWER than '..Said'. Prove '..Said' where nothing that the law and all that it calls make is longer than what came in: it says more and counts as full. Else prove '..UptoSaid'. A law counts once. -/
mutual
def uptoBulk {H : Type} : DataW H → Nat
  | .lit (.string bytes) => bytes.length + 1
  | .lit _ => 1
  | .nil => 1
  | .ptr d => uptoBulk d + 1
  | .slice elems spare => uptoBulkAll elems + uptoBulkAll spare + 1
  | .agg parts => uptoBulkAll parts + 1
  | .iface _ d => uptoBulk d + 1
  | .map entries => uptoBulkEntries entries + 1
  | .held _ => 1
def uptoBulkAll {H : Type} : List (DataW H) → Nat
  | [] => 0
  | d :: r => uptoBulk d + uptoBulkAll r
def uptoBulkEntries {H : Type} : List (Lit × DataW H) → Nat
  | [] => 0
  | x :: r => uptoBulkEntry x + uptoBulkEntries r
def uptoBulkEntry {H : Type} : Lit × DataW H → Nat
  | (.string bytes, d) => bytes.length + uptoBulk d + 1
  | (_, d) => uptoBulk d + 1
 end
def uptoSmall : (H : Type) → List (DataW H) → Bool := fun _ ds => decide (uptoBulkAll ds ≤ 1048576)
def OpenSpec.upto (s : _root_.Go.ChangeSpec) : _root_.Go.OpenSpec := { _root_.Go.OpenSpec.ofChange s with cond := some uptoSmall }

/-- 'laws.FnExactSpiralRounds', WHERE WHAT IT READS IS OF BULK AT MOST 1048576: true; the input reads as it did. -/
def fnExactSpiralRoundsUptoRow : OpenClaim := { program := "ytbeacmealippmaadoor", sum := "70c585e7b3d7e954cd3e08328c49b8ca6417b6117bea37b5bc03b5c245179116", func := "loop.example/turtlewalks/laws.FnExactSpiralRounds", spec := "fnExactSpiralRounds", inPlace := ["internal/abi.NoEscape"], unfollowed := true, recurses := true, named := ["loop.example/turtlewalks/impl.directions"], apart := false, laid := [("loop.example/turtlewalks/impl.directions", laid_loop_example_turtlewalks_impl_directions)], narrowed := true }
def FnExactSpiralRoundsUptoSaid : Prop := fnExactSpiralRoundsUptoRow.holds Tryd.pinned (OpenSpec.upto fnExactSpiralRoundsSpec)

/-- 'laws.FnExactGoingOff', WHERE WHAT IT READS IS OF BULK AT MOST 1048576: true; the input reads as it did. -/
def fnExactGoingOffUptoRow : OpenClaim := { program := "ytbeacmealippmaadoor", sum := "70c585e7b3d7e954cd3e08328c49b8ca6417b6117bea37b5bc03b5c245179116", func := "loop.example/turtlewalks/laws.FnExactGoingOff", spec := "fnExactGoingOff", inPlace := ["internal/abi.NoEscape"], unfollowed := true, recurses := true, named := ["loop.example/turtlewalks/impl.directions"], apart := false, laid := [("loop.example/turtlewalks/impl.directions", laid_loop_example_turtlewalks_impl_directions)], narrowed := true }
def FnExactGoingOffUptoSaid : Prop := fnExactGoingOffUptoRow.holds Tryd.pinned (OpenSpec.upto fnExactGoingOffSpec)

/-- 'laws.FnSpiralRounds', WHERE WHAT IT READS IS OF BULK AT MOST 1048576: true; the input reads as it did. -/
def fnSpiralRoundsUptoRow : OpenClaim := { program := "ytbeacmealippmaadoor", sum := "70c585e7b3d7e954cd3e08328c49b8ca6417b6117bea37b5bc03b5c245179116", func := "loop.example/turtlewalks/laws.FnSpiralRounds", spec := "fnSpiralRounds", inPlace := ["internal/abi.NoEscape"], unfollowed := true, recurses := true, named := ["loop.example/turtlewalks/impl.directions"], apart := false, laid := [("loop.example/turtlewalks/impl.directions", laid_loop_example_turtlewalks_impl_directions)], narrowed := true }
def FnSpiralRoundsUptoSaid : Prop := fnSpiralRoundsUptoRow.holds Tryd.pinned (OpenSpec.upto fnSpiralRoundsSpec)

/-- 'laws.FnExactClosedSpirals', WHERE WHAT IT READS IS OF BULK AT MOST 1048576: true; the input reads as it did. -/
def fnExactClosedSpiralsUptoRow : OpenClaim := { program := "ytbeacmealippmaadoor", sum := "70c585e7b3d7e954cd3e08328c49b8ca6417b6117bea37b5bc03b5c245179116", func := "loop.example/turtlewalks/laws.FnExactClosedSpirals", spec := "fnExactClosedSpirals", inPlace := ["internal/abi.NoEscape"], unfollowed := true, recurses := true, named := ["loop.example/turtlewalks/impl.directions"], apart := false, laid := [("loop.example/turtlewalks/impl.directions", laid_loop_example_turtlewalks_impl_directions)], narrowed := true }
def FnExactClosedSpiralsUptoSaid : Prop := fnExactClosedSpiralsUptoRow.holds Tryd.pinned (OpenSpec.upto fnExactClosedSpiralsSpec)

/-- 'laws.FnGoingOff', WHERE WHAT IT READS IS OF BULK AT MOST 1048576: true; the input reads as it did. -/
def fnGoingOffUptoRow : OpenClaim := { program := "ytbeacmealippmaadoor", sum := "70c585e7b3d7e954cd3e08328c49b8ca6417b6117bea37b5bc03b5c245179116", func := "loop.example/turtlewalks/laws.FnGoingOff", spec := "fnGoingOff", inPlace := ["internal/abi.NoEscape"], unfollowed := true, recurses := true, named := ["loop.example/turtlewalks/impl.directions"], apart := false, laid := [("loop.example/turtlewalks/impl.directions", laid_loop_example_turtlewalks_impl_directions)], narrowed := true }
def FnGoingOffUptoSaid : Prop := fnGoingOffUptoRow.holds Tryd.pinned (OpenSpec.upto fnGoingOffSpec)

end Rows
end Go.Proofs.YtbeacmealippmaaDoor
