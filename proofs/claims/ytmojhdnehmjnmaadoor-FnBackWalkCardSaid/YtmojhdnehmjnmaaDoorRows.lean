/-
  NARROWER THAN 'FOR EVERY INPUT', by the rows' own cells (each row's printed sentence says how): FnBackWalk: laid · FnBothOf: laid · FnWindingOf: laid · FnTurningOf: laid · FnWithinOk: laid · FnAreaOf: laid.
  DERIVED. THE GIVEN ROWS OF THIS SEAT. 6 by the template 'for every input the law returns true; each argument reads behind the call as it read before'; 0 by the template 'total and deterministic' (their statements: YtmojhdnehmjnmaaDoorTotals.lean).
  GIVEN WITH THE SEED: the statements are not yours to turn. If you find one false, say at which input.
  Laid BY PROGRAM, IN A SANDBOX (cutbox-rows.mjs): the forced cells as the released guide's own fill.sh prints them over the translation c50036b655ce7ee8… (all of the seat's roots in one cut). By AI agents, Wed Nov 11 2026. No macro, syntax, notation, axiom, sorry.
-/
import Derived.Test.YtmojhdnehmjnmaaDoorChecked
import GoSem.Claim
import GoSem.ClaimJoined
import GoSem.ClaimMapViews
import Derived.JoinedTies
import Derived.KernelRfl
namespace Go.Proofs.YtmojhdnehmjnmaaDoor
/- THE CELL 'sum', in the pinned program and in every row, IS THE sha256 OF THE DUMP (.gsa) THAT YtmojhdnehmjnmaaDoorProg.lean LOADS. Nothing in Lean hashes anything: it is a label: what it is worth is what the hold of that sum in a sandbox is worth. -/
noncomputable def Tryd.pinned : Pinned := { name := "ytmojhdnehmjnmaadoor", sum := "c50036b655ce7ee8a4951a92cabed74314b7026b91c2ddcfc9770d68ba783183", checked := Tryd.checked }
namespace Rows
def none {H : Type} : Left H := { results := [], args := [] }

/- WHAT THE LISTED PACKAGE-LEVEL VARIABLES READ AS WHEN THE CALL BEGINS. Each datum BY PROGRAM (the guide's laid-datum.mjs) off the statement by which the dump's own 'gosem.cut.vars' lays the variable. In a bare row this is a premise. The card (YtmojhdnehmjnmaaDoorCards.lean) ties it to the program's text. -/
def laid_loop_example_turtlewalks_impl_directions {H : Type} : DataW H := .agg [.agg [.lit (.int .i64 1), .lit (.int .i64 0)], .agg [.lit (.int .i64 0), .lit (.int .i64 1)], .agg [.lit (.int .i64 (-1)), .lit (.int .i64 0)], .agg [.lit (.int .i64 0), .lit (.int .i64 (-1))]]

/-- 'laws.FnBackWalk': WHATEVER THE INPUT: true; the input reads as it did. -/
def fnBackWalkSpec : ChangeSpec := { name := "fnBackWalk", vars := ["loop.example/turtlewalks/impl.directions"], fn := fun _ => fun
  | [d, g1] => { results := [.lit (.bool true)], args := [d], vars := [g1] }
  | _ => none }
def fnBackWalkRow : OpenClaim := { program := "ytmojhdnehmjnmaadoor", sum := "c50036b655ce7ee8a4951a92cabed74314b7026b91c2ddcfc9770d68ba783183", func := "loop.example/turtlewalks/laws.FnBackWalk", spec := "fnBackWalk", inPlace := ["internal/bytealg.IndexByteString"], named := ["loop.example/turtlewalks/impl.directions"], plainKeys := false, apart := false, laid := [("loop.example/turtlewalks/impl.directions", laid_loop_example_turtlewalks_impl_directions)] }
def FnBackWalkSaid : Prop := fnBackWalkRow.holds Tryd.pinned (OpenSpec.ofChange fnBackWalkSpec)

/-- ITS FALSE NEIGHBOUR: 'it returns false'. Refute it at one input. -/
def fnBackWalkWrong : ChangeSpec := { name := "fnBackWalk", vars := ["loop.example/turtlewalks/impl.directions"], fn := fun _ => fun
  | [d, g1] => { results := [.lit (.bool false)], args := [d], vars := [g1] }
  | _ => none }
def FnBackWalkWrongFalsely : Prop := fnBackWalkRow.holds Tryd.pinned (OpenSpec.ofChange fnBackWalkWrong)

/-- 'laws.FnBothOf': WHATEVER THE INPUT: true; the input reads as it did. -/
def fnBothOfSpec : ChangeSpec := { name := "fnBothOf", vars := ["loop.example/turtlewalks/impl.directions"], fn := fun _ => fun
  | [d, g1] => { results := [.lit (.bool true)], args := [d], vars := [g1] }
  | _ => none }
def fnBothOfRow : OpenClaim := { program := "ytmojhdnehmjnmaadoor", sum := "c50036b655ce7ee8a4951a92cabed74314b7026b91c2ddcfc9770d68ba783183", func := "loop.example/turtlewalks/laws.FnBothOf", spec := "fnBothOf", inPlace := ["internal/bytealg.IndexByteString"], named := ["loop.example/turtlewalks/impl.directions"], plainKeys := false, apart := false, laid := [("loop.example/turtlewalks/impl.directions", laid_loop_example_turtlewalks_impl_directions)] }
def FnBothOfSaid : Prop := fnBothOfRow.holds Tryd.pinned (OpenSpec.ofChange fnBothOfSpec)

/-- ITS FALSE NEIGHBOUR: 'it returns false'. Refute it at one input. -/
def fnBothOfWrong : ChangeSpec := { name := "fnBothOf", vars := ["loop.example/turtlewalks/impl.directions"], fn := fun _ => fun
  | [d, g1] => { results := [.lit (.bool false)], args := [d], vars := [g1] }
  | _ => none }
def FnBothOfWrongFalsely : Prop := fnBothOfRow.holds Tryd.pinned (OpenSpec.ofChange fnBothOfWrong)

/-- 'laws.FnWindingOf': WHATEVER THE INPUT: true; the input reads as it did. -/
def fnWindingOfSpec : ChangeSpec := { name := "fnWindingOf", vars := ["loop.example/turtlewalks/impl.directions"], fn := fun _ => fun
  | [d, g1] => { results := [.lit (.bool true)], args := [d], vars := [g1] }
  | _ => none }
def fnWindingOfRow : OpenClaim := { program := "ytmojhdnehmjnmaadoor", sum := "c50036b655ce7ee8a4951a92cabed74314b7026b91c2ddcfc9770d68ba783183", func := "loop.example/turtlewalks/laws.FnWindingOf", spec := "fnWindingOf", inPlace := ["internal/bytealg.IndexByteString"], named := ["loop.example/turtlewalks/impl.directions"], plainKeys := false, apart := false, laid := [("loop.example/turtlewalks/impl.directions", laid_loop_example_turtlewalks_impl_directions)] }
def FnWindingOfSaid : Prop := fnWindingOfRow.holds Tryd.pinned (OpenSpec.ofChange fnWindingOfSpec)

/-- ITS FALSE NEIGHBOUR: 'it returns false'. Refute it at one input. -/
def fnWindingOfWrong : ChangeSpec := { name := "fnWindingOf", vars := ["loop.example/turtlewalks/impl.directions"], fn := fun _ => fun
  | [d, g1] => { results := [.lit (.bool false)], args := [d], vars := [g1] }
  | _ => none }
def FnWindingOfWrongFalsely : Prop := fnWindingOfRow.holds Tryd.pinned (OpenSpec.ofChange fnWindingOfWrong)

/-- 'laws.FnTurningOf': WHATEVER THE INPUT: true; the input reads as it did. -/
def fnTurningOfSpec : ChangeSpec := { name := "fnTurningOf", vars := ["loop.example/turtlewalks/impl.directions"], fn := fun _ => fun
  | [d, g1] => { results := [.lit (.bool true)], args := [d], vars := [g1] }
  | _ => none }
def fnTurningOfRow : OpenClaim := { program := "ytmojhdnehmjnmaadoor", sum := "c50036b655ce7ee8a4951a92cabed74314b7026b91c2ddcfc9770d68ba783183", func := "loop.example/turtlewalks/laws.FnTurningOf", spec := "fnTurningOf", inPlace := ["internal/bytealg.IndexByteString"], named := ["loop.example/turtlewalks/impl.directions"], plainKeys := false, apart := false, laid := [("loop.example/turtlewalks/impl.directions", laid_loop_example_turtlewalks_impl_directions)] }
def FnTurningOfSaid : Prop := fnTurningOfRow.holds Tryd.pinned (OpenSpec.ofChange fnTurningOfSpec)

/-- ITS FALSE NEIGHBOUR: 'it returns false'. Refute it at one input. -/
def fnTurningOfWrong : ChangeSpec := { name := "fnTurningOf", vars := ["loop.example/turtlewalks/impl.directions"], fn := fun _ => fun
  | [d, g1] => { results := [.lit (.bool false)], args := [d], vars := [g1] }
  | _ => none }
def FnTurningOfWrongFalsely : Prop := fnTurningOfRow.holds Tryd.pinned (OpenSpec.ofChange fnTurningOfWrong)

/-- 'laws.FnWithinOk': WHATEVER THE INPUT: true; the input reads as it did. -/
def fnWithinOkSpec : ChangeSpec := { name := "fnWithinOk", vars := ["loop.example/turtlewalks/impl.directions"], fn := fun _ => fun
  | [d, g1] => { results := [.lit (.bool true)], args := [d], vars := [g1] }
  | _ => none }
def fnWithinOkRow : OpenClaim := { program := "ytmojhdnehmjnmaadoor", sum := "c50036b655ce7ee8a4951a92cabed74314b7026b91c2ddcfc9770d68ba783183", func := "loop.example/turtlewalks/laws.FnWithinOk", spec := "fnWithinOk", inPlace := ["internal/bytealg.IndexByteString"], named := ["loop.example/turtlewalks/impl.directions"], plainKeys := false, apart := false, laid := [("loop.example/turtlewalks/impl.directions", laid_loop_example_turtlewalks_impl_directions)] }
def FnWithinOkSaid : Prop := fnWithinOkRow.holds Tryd.pinned (OpenSpec.ofChange fnWithinOkSpec)

/-- ITS FALSE NEIGHBOUR: 'it returns false'. Refute it at one input. -/
def fnWithinOkWrong : ChangeSpec := { name := "fnWithinOk", vars := ["loop.example/turtlewalks/impl.directions"], fn := fun _ => fun
  | [d, g1] => { results := [.lit (.bool false)], args := [d], vars := [g1] }
  | _ => none }
def FnWithinOkWrongFalsely : Prop := fnWithinOkRow.holds Tryd.pinned (OpenSpec.ofChange fnWithinOkWrong)

/-- 'laws.FnAreaOf': WHATEVER THE INPUT: true; the input reads as it did. -/
def fnAreaOfSpec : ChangeSpec := { name := "fnAreaOf", vars := ["loop.example/turtlewalks/impl.directions"], fn := fun _ => fun
  | [d, g1] => { results := [.lit (.bool true)], args := [d], vars := [g1] }
  | _ => none }
def fnAreaOfRow : OpenClaim := { program := "ytmojhdnehmjnmaadoor", sum := "c50036b655ce7ee8a4951a92cabed74314b7026b91c2ddcfc9770d68ba783183", func := "loop.example/turtlewalks/laws.FnAreaOf", spec := "fnAreaOf", inPlace := ["internal/bytealg.IndexByteString"], named := ["loop.example/turtlewalks/impl.directions"], plainKeys := false, apart := false, laid := [("loop.example/turtlewalks/impl.directions", laid_loop_example_turtlewalks_impl_directions)] }
def FnAreaOfSaid : Prop := fnAreaOfRow.holds Tryd.pinned (OpenSpec.ofChange fnAreaOfSpec)

/-- ITS FALSE NEIGHBOUR: 'it returns false'. Refute it at one input. -/
def fnAreaOfWrong : ChangeSpec := { name := "fnAreaOf", vars := ["loop.example/turtlewalks/impl.directions"], fn := fun _ => fun
  | [d, g1] => { results := [.lit (.bool false)], args := [d], vars := [g1] }
  | _ => none }
def FnAreaOfWrongFalsely : Prop := fnAreaOfRow.holds Tryd.pinned (OpenSpec.ofChange fnAreaOfWrong)

/- THE SECOND FORM. 'bulk': how many values and letters a reading holds, each counted each time it is reached (what is shared counts as often as it is met; a slice's spare places count too). A statement '..UptoSaid' is the law's where the arguments, and the package variables that the reading takes, are together of bulk at most 1048576: NARROWER than '..Said'. Prove '..Said' where nothing that the law and all that it calls make is longer than what came in: it says more and counts as full. Else prove '..UptoSaid'. A law counts once. -/
mutual
def uptoBulk {H : Type} : DataW H → Nat
  | .lit (.string bytes) => bytes.length + 1
  | .lit _ => 1
  | .nil => 1
  | .ptr d => uptoBulk d + 1
  | .slice elems spare => uptoBulkAll elems + uptoBulkAll spare + 1
  | .agg parts => uptoBulkAll parts + 1
  | .iface _ d => uptoBulk d + 1
  | .map entries => uptoBulkEntries entries + 1
  | .held _ => 1
def uptoBulkAll {H : Type} : List (DataW H) → Nat
  | [] => 0
  | d :: r => uptoBulk d + uptoBulkAll r
def uptoBulkEntries {H : Type} : List (Lit × DataW H) → Nat
  | [] => 0
  | x :: r => uptoBulkEntry x + uptoBulkEntries r
def uptoBulkEntry {H : Type} : Lit × DataW H → Nat
  | (.string bytes, d) => bytes.length + uptoBulk d + 1
  | (_, d) => uptoBulk d + 1
 end
def uptoSmall : (H : Type) → List (DataW H) → Bool := fun _ ds => decide (uptoBulkAll ds ≤ 1048576)
def OpenSpec.upto (s : _root_.Go.ChangeSpec) : _root_.Go.OpenSpec := { _root_.Go.OpenSpec.ofChange s with cond := some uptoSmall }

/-- 'laws.FnBackWalk', WHERE WHAT IT READS IS OF BULK AT MOST 1048576: true; the input reads as it did. -/
def fnBackWalkUptoRow : OpenClaim := { program := "ytmojhdnehmjnmaadoor", sum := "c50036b655ce7ee8a4951a92cabed74314b7026b91c2ddcfc9770d68ba783183", func := "loop.example/turtlewalks/laws.FnBackWalk", spec := "fnBackWalk", inPlace := ["internal/bytealg.IndexByteString"], named := ["loop.example/turtlewalks/impl.directions"], plainKeys := false, apart := false, laid := [("loop.example/turtlewalks/impl.directions", laid_loop_example_turtlewalks_impl_directions)], narrowed := true }
def FnBackWalkUptoSaid : Prop := fnBackWalkUptoRow.holds Tryd.pinned (OpenSpec.upto fnBackWalkSpec)

/-- 'laws.FnBothOf', WHERE WHAT IT READS IS OF BULK AT MOST 1048576: true; the input reads as it did. -/
def fnBothOfUptoRow : OpenClaim := { program := "ytmojhdnehmjnmaadoor", sum := "c50036b655ce7ee8a4951a92cabed74314b7026b91c2ddcfc9770d68ba783183", func := "loop.example/turtlewalks/laws.FnBothOf", spec := "fnBothOf", inPlace := ["internal/bytealg.IndexByteString"], named := ["loop.example/turtlewalks/impl.directions"], plainKeys := false, apart := false, laid := [("loop.example/turtlewalks/impl.directions", laid_loop_example_turtlewalks_impl_directions)], narrowed := true }
def FnBothOfUptoSaid : Prop := fnBothOfUptoRow.holds Tryd.pinned (OpenSpec.upto fnBothOfSpec)

/-- 'laws.FnWindingOf', WHERE WHAT IT READS IS OF BULK AT MOST 1048576: true; the input reads as it did. -/
def fnWindingOfUptoRow : OpenClaim := { program := "ytmojhdnehmjnmaadoor", sum := "c50036b655ce7ee8a4951a92cabed74314b7026b91c2ddcfc9770d68ba783183", func := "loop.example/turtlewalks/laws.FnWindingOf", spec := "fnWindingOf", inPlace := ["internal/bytealg.IndexByteString"], named := ["loop.example/turtlewalks/impl.directions"], plainKeys := false, apart := false, laid := [("loop.example/turtlewalks/impl.directions", laid_loop_example_turtlewalks_impl_directions)], narrowed := true }
def FnWindingOfUptoSaid : Prop := fnWindingOfUptoRow.holds Tryd.pinned (OpenSpec.upto fnWindingOfSpec)

/-- 'laws.FnTurningOf', WHERE WHAT IT READS IS OF BULK AT MOST 1048576: true; the input reads as it did. -/
def fnTurningOfUptoRow : OpenClaim := { program := "ytmojhdnehmjnmaadoor", sum := "c50036b655ce7ee8a4951a92cabed74314b7026b91c2ddcfc9770d68ba783183", func := "loop.example/turtlewalks/laws.FnTurningOf", spec := "fnTurningOf", inPlace := ["internal/bytealg.IndexByteString"], named := ["loop.example/turtlewalks/impl.directions"], plainKeys := false, apart := false, laid := [("loop.example/turtlewalks/impl.directions", laid_loop_example_turtlewalks_impl_directions)], narrowed := true }
def FnTurningOfUptoSaid : Prop := fnTurningOfUptoRow.holds Tryd.pinned (OpenSpec.upto fnTurningOfSpec)

/-- 'laws.FnWithinOk', WHERE WHAT IT READS IS OF BULK AT MOST 1048576: true; the input reads as it did. -/
def fnWithinOkUptoRow : OpenClaim := { program := "ytmojhdnehmjnmaadoor", sum := "c50036b655ce7ee8a4951a92cabed74314b7026b91c2ddcfc9770d68ba783183", func := "loop.example/turtlewalks/laws.FnWithinOk", spec := "fnWithinOk", inPlace := ["internal/bytealg.IndexByteString"], named := ["loop.example/turtlewalks/impl.directions"], plainKeys := false, apart := false, laid := [("loop.example/turtlewalks/impl.directions", laid_loop_example_turtlewalks_impl_directions)], narrowed := true }
def FnWithinOkUptoSaid : Prop := fnWithinOkUptoRow.holds Tryd.pinned (OpenSpec.upto fnWithinOkSpec)

/-- 'laws.FnAreaOf', WHERE WHAT IT READS IS OF BULK AT MOST 1048576: true; the input reads as it did. -/
def fnAreaOfUptoRow : OpenClaim := { program := "ytmojhdnehmjnmaadoor", sum := "c50036b655ce7ee8a4951a92cabed74314b7026b91c2ddcfc9770d68ba783183", func := "loop.example/turtlewalks/laws.FnAreaOf", spec := "fnAreaOf", inPlace := ["internal/bytealg.IndexByteString"], named := ["loop.example/turtlewalks/impl.directions"], plainKeys := false, apart := false, laid := [("loop.example/turtlewalks/impl.directions", laid_loop_example_turtlewalks_impl_directions)], narrowed := true }
def FnAreaOfUptoSaid : Prop := fnAreaOfUptoRow.holds Tryd.pinned (OpenSpec.upto fnAreaOfSpec)

end Rows
end Go.Proofs.YtmojhdnehmjnmaaDoor
