/-
  No cell of these rows narrows 'for every input' (looked for: loops, veiled, ifaces, maps, wideKeys, modest, calm, conditions, laid).
  DERIVED. THE GIVEN ROWS OF THIS SEAT. 14 by the template 'for every input the law returns true; each argument reads behind the call as it read before'; 0 by the template 'total and deterministic' (their statements: YtbklcalpojkjfaaTotals.lean).
  GIVEN WITH THE SEED: the statements are not yours to turn. If you find one false, say at which input.
  Laid BY PROGRAM, IN A SANDBOX (cutbox-rows.mjs): the forced cells as the released guide's own fill.sh prints them over the translation c85561d8825c813d… (all of the seat's roots in one cut). By AI agents, Wed Nov 11 2026. No macro, syntax, notation, axiom, sorry.
-/
import Derived.Test.YtbklcalpojkjfaaChecked
import GoSem.Claim
import GoSem.ClaimJoined
import GoSem.ClaimMapViews
import Derived.JoinedTies
import Derived.KernelRfl
namespace Go.Proofs.Ytbklcalpojkjfaa
/- THE CELL 'sum', in the pinned program and in every row, IS THE sha256 OF THE DUMP (.gsa) THAT YtbklcalpojkjfaaProg.lean LOADS. Nothing in Lean hashes anything: it is a label: what it is worth is what the hold of that sum in a sandbox is worth. -/
noncomputable def Try.pinned : Pinned := { name := "ytbklcalpojkjfaa", sum := "c85561d8825c813dfc67b9f8433b3bc54da08436eab573d6b6990f0384db48aa", checked := Try.checked }
namespace Rows
def none {H : Type} : Left H := { results := [], args := [] }

/-- 'laws.FnExactUnwovenOf': WHATEVER THE INPUT: true; the input reads as it did. -/
def fnExactUnwovenOfSpec : ChangeSpec := { name := "fnExactUnwovenOf", fn := fun _ => fun
  | [d1, d2] => { results := [.lit (.bool true)], args := [d1, d2] }
  | _ => none }
def fnExactUnwovenOfRow : OpenClaim := { program := "ytbklcalpojkjfaa", sum := "c85561d8825c813dfc67b9f8433b3bc54da08436eab573d6b6990f0384db48aa", func := "loop.example/turtlewalks/laws.FnExactUnwovenOf", spec := "fnExactUnwovenOf", apart := false }
def FnExactUnwovenOfSaid : Prop := fnExactUnwovenOfRow.holds Try.pinned (OpenSpec.ofChange fnExactUnwovenOfSpec)

/-- ITS FALSE NEIGHBOUR: 'it returns false'. Refute it at one input. -/
def fnExactUnwovenOfWrong : ChangeSpec := { name := "fnExactUnwovenOf", fn := fun _ => fun
  | [d1, d2] => { results := [.lit (.bool false)], args := [d1, d2] }
  | _ => none }
def FnExactUnwovenOfWrongFalsely : Prop := fnExactUnwovenOfRow.holds Try.pinned (OpenSpec.ofChange fnExactUnwovenOfWrong)

/-- 'laws.FnExactWovenOf': WHATEVER THE INPUT: true; the input reads as it did. -/
def fnExactWovenOfSpec : ChangeSpec := { name := "fnExactWovenOf", fn := fun _ => fun
  | [d1, d2, d3] => { results := [.lit (.bool true)], args := [d1, d2, d3] }
  | _ => none }
def fnExactWovenOfRow : OpenClaim := { program := "ytbklcalpojkjfaa", sum := "c85561d8825c813dfc67b9f8433b3bc54da08436eab573d6b6990f0384db48aa", func := "loop.example/turtlewalks/laws.FnExactWovenOf", spec := "fnExactWovenOf", apart := false }
def FnExactWovenOfSaid : Prop := fnExactWovenOfRow.holds Try.pinned (OpenSpec.ofChange fnExactWovenOfSpec)

/-- ITS FALSE NEIGHBOUR: 'it returns false'. Refute it at one input. -/
def fnExactWovenOfWrong : ChangeSpec := { name := "fnExactWovenOf", fn := fun _ => fun
  | [d1, d2, d3] => { results := [.lit (.bool false)], args := [d1, d2, d3] }
  | _ => none }
def FnExactWovenOfWrongFalsely : Prop := fnExactWovenOfRow.holds Try.pinned (OpenSpec.ofChange fnExactWovenOfWrong)

/-- 'laws.FnExactEastOf': WHATEVER THE INPUT: true; the input reads as it did. -/
def fnExactEastOfSpec : ChangeSpec := { name := "fnExactEastOf", fn := fun _ => fun
  | [d1, d2] => { results := [.lit (.bool true)], args := [d1, d2] }
  | _ => none }
def fnExactEastOfRow : OpenClaim := { program := "ytbklcalpojkjfaa", sum := "c85561d8825c813dfc67b9f8433b3bc54da08436eab573d6b6990f0384db48aa", func := "loop.example/turtlewalks/laws.FnExactEastOf", spec := "fnExactEastOf", apart := false }
def FnExactEastOfSaid : Prop := fnExactEastOfRow.holds Try.pinned (OpenSpec.ofChange fnExactEastOfSpec)

/-- ITS FALSE NEIGHBOUR: 'it returns false'. Refute it at one input. -/
def fnExactEastOfWrong : ChangeSpec := { name := "fnExactEastOf", fn := fun _ => fun
  | [d1, d2] => { results := [.lit (.bool false)], args := [d1, d2] }
  | _ => none }
def FnExactEastOfWrongFalsely : Prop := fnExactEastOfRow.holds Try.pinned (OpenSpec.ofChange fnExactEastOfWrong)

/-- 'laws.FnExactNumberOf': WHATEVER THE INPUT: true; the input reads as it did. -/
def fnExactNumberOfSpec : ChangeSpec := { name := "fnExactNumberOf", fn := fun _ => fun
  | [d1, d2, d3] => { results := [.lit (.bool true)], args := [d1, d2, d3] }
  | _ => none }
def fnExactNumberOfRow : OpenClaim := { program := "ytbklcalpojkjfaa", sum := "c85561d8825c813dfc67b9f8433b3bc54da08436eab573d6b6990f0384db48aa", func := "loop.example/turtlewalks/laws.FnExactNumberOf", spec := "fnExactNumberOf", unfollowed := true, recurses := true, apart := false }
def FnExactNumberOfSaid : Prop := fnExactNumberOfRow.holds Try.pinned (OpenSpec.ofChange fnExactNumberOfSpec)

/-- ITS FALSE NEIGHBOUR: 'it returns false'. Refute it at one input. -/
def fnExactNumberOfWrong : ChangeSpec := { name := "fnExactNumberOf", fn := fun _ => fun
  | [d1, d2, d3] => { results := [.lit (.bool false)], args := [d1, d2, d3] }
  | _ => none }
def FnExactNumberOfWrongFalsely : Prop := fnExactNumberOfRow.holds Try.pinned (OpenSpec.ofChange fnExactNumberOfWrong)

/-- 'laws.FnExactCellOf': WHATEVER THE INPUT: true; the input reads as it did. -/
def fnExactCellOfSpec : ChangeSpec := { name := "fnExactCellOf", fn := fun _ => fun
  | [d1, d2] => { results := [.lit (.bool true)], args := [d1, d2] }
  | _ => none }
def fnExactCellOfRow : OpenClaim := { program := "ytbklcalpojkjfaa", sum := "c85561d8825c813dfc67b9f8433b3bc54da08436eab573d6b6990f0384db48aa", func := "loop.example/turtlewalks/laws.FnExactCellOf", spec := "fnExactCellOf", unfollowed := true, recurses := true, apart := false }
def FnExactCellOfSaid : Prop := fnExactCellOfRow.holds Try.pinned (OpenSpec.ofChange fnExactCellOfSpec)

/-- ITS FALSE NEIGHBOUR: 'it returns false'. Refute it at one input. -/
def fnExactCellOfWrong : ChangeSpec := { name := "fnExactCellOf", fn := fun _ => fun
  | [d1, d2] => { results := [.lit (.bool false)], args := [d1, d2] }
  | _ => none }
def FnExactCellOfWrongFalsely : Prop := fnExactCellOfRow.holds Try.pinned (OpenSpec.ofChange fnExactCellOfWrong)

/-- 'laws.FnUnwovenOf': WHATEVER THE INPUT: true; the input reads as it did. -/
def fnUnwovenOfSpec : ChangeSpec := { name := "fnUnwovenOf", fn := fun _ => fun
  | [d] => { results := [.lit (.bool true)], args := [d] }
  | _ => none }
def fnUnwovenOfRow : OpenClaim := { program := "ytbklcalpojkjfaa", sum := "c85561d8825c813dfc67b9f8433b3bc54da08436eab573d6b6990f0384db48aa", func := "loop.example/turtlewalks/laws.FnUnwovenOf", spec := "fnUnwovenOf", apart := false }
def FnUnwovenOfSaid : Prop := fnUnwovenOfRow.holds Try.pinned (OpenSpec.ofChange fnUnwovenOfSpec)

/-- ITS FALSE NEIGHBOUR: 'it returns false'. Refute it at one input. -/
def fnUnwovenOfWrong : ChangeSpec := { name := "fnUnwovenOf", fn := fun _ => fun
  | [d] => { results := [.lit (.bool false)], args := [d] }
  | _ => none }
def FnUnwovenOfWrongFalsely : Prop := fnUnwovenOfRow.holds Try.pinned (OpenSpec.ofChange fnUnwovenOfWrong)

/-- 'laws.FnWovenOf': WHATEVER THE INPUT: true; the input reads as it did. -/
def fnWovenOfSpec : ChangeSpec := { name := "fnWovenOf", fn := fun _ => fun
  | [d] => { results := [.lit (.bool true)], args := [d] }
  | _ => none }
def fnWovenOfRow : OpenClaim := { program := "ytbklcalpojkjfaa", sum := "c85561d8825c813dfc67b9f8433b3bc54da08436eab573d6b6990f0384db48aa", func := "loop.example/turtlewalks/laws.FnWovenOf", spec := "fnWovenOf", apart := false }
def FnWovenOfSaid : Prop := fnWovenOfRow.holds Try.pinned (OpenSpec.ofChange fnWovenOfSpec)

/-- ITS FALSE NEIGHBOUR: 'it returns false'. Refute it at one input. -/
def fnWovenOfWrong : ChangeSpec := { name := "fnWovenOf", fn := fun _ => fun
  | [d] => { results := [.lit (.bool false)], args := [d] }
  | _ => none }
def FnWovenOfWrongFalsely : Prop := fnWovenOfRow.holds Try.pinned (OpenSpec.ofChange fnWovenOfWrong)

/-- 'laws.FnExactSameQuarters': WHATEVER THE INPUT: true; the input reads as it did. -/
def fnExactSameQuartersSpec : ChangeSpec := { name := "fnExactSameQuarters", fn := fun _ => fun
  | [d1, d2, d3, d4] => { results := [.lit (.bool true)], args := [d1, d2, d3, d4] }
  | _ => none }
def fnExactSameQuartersRow : OpenClaim := { program := "ytbklcalpojkjfaa", sum := "c85561d8825c813dfc67b9f8433b3bc54da08436eab573d6b6990f0384db48aa", func := "loop.example/turtlewalks/laws.FnExactSameQuarters", spec := "fnExactSameQuarters", unfollowed := true, recurses := true, apart := false }
def FnExactSameQuartersSaid : Prop := fnExactSameQuartersRow.holds Try.pinned (OpenSpec.ofChange fnExactSameQuartersSpec)

/-- ITS FALSE NEIGHBOUR: 'it returns false'. Refute it at one input. -/
def fnExactSameQuartersWrong : ChangeSpec := { name := "fnExactSameQuarters", fn := fun _ => fun
  | [d1, d2, d3, d4] => { results := [.lit (.bool false)], args := [d1, d2, d3, d4] }
  | _ => none }
def FnExactSameQuartersWrongFalsely : Prop := fnExactSameQuartersRow.holds Try.pinned (OpenSpec.ofChange fnExactSameQuartersWrong)

/-- 'laws.FnExactFarthestApart': WHATEVER THE INPUT: true; the input reads as it did. -/
def fnExactFarthestApartSpec : ChangeSpec := { name := "fnExactFarthestApart", fn := fun _ => fun
  | [d1, d2] => { results := [.lit (.bool true)], args := [d1, d2] }
  | _ => none }
def fnExactFarthestApartRow : OpenClaim := { program := "ytbklcalpojkjfaa", sum := "c85561d8825c813dfc67b9f8433b3bc54da08436eab573d6b6990f0384db48aa", func := "loop.example/turtlewalks/laws.FnExactFarthestApart", spec := "fnExactFarthestApart", unfollowed := true, recurses := true, apart := false }
def FnExactFarthestApartSaid : Prop := fnExactFarthestApartRow.holds Try.pinned (OpenSpec.ofChange fnExactFarthestApartSpec)

/-- ITS FALSE NEIGHBOUR: 'it returns false'. Refute it at one input. -/
def fnExactFarthestApartWrong : ChangeSpec := { name := "fnExactFarthestApart", fn := fun _ => fun
  | [d1, d2] => { results := [.lit (.bool false)], args := [d1, d2] }
  | _ => none }
def FnExactFarthestApartWrongFalsely : Prop := fnExactFarthestApartRow.holds Try.pinned (OpenSpec.ofChange fnExactFarthestApartWrong)

/-- 'laws.FnEastOf': WHATEVER THE INPUT: true; the input reads as it did. -/
def fnEastOfSpec : ChangeSpec := { name := "fnEastOf", fn := fun _ => fun
  | [d] => { results := [.lit (.bool true)], args := [d] }
  | _ => none }
def fnEastOfRow : OpenClaim := { program := "ytbklcalpojkjfaa", sum := "c85561d8825c813dfc67b9f8433b3bc54da08436eab573d6b6990f0384db48aa", func := "loop.example/turtlewalks/laws.FnEastOf", spec := "fnEastOf", apart := false }
def FnEastOfSaid : Prop := fnEastOfRow.holds Try.pinned (OpenSpec.ofChange fnEastOfSpec)

/-- ITS FALSE NEIGHBOUR: 'it returns false'. Refute it at one input. -/
def fnEastOfWrong : ChangeSpec := { name := "fnEastOf", fn := fun _ => fun
  | [d] => { results := [.lit (.bool false)], args := [d] }
  | _ => none }
def FnEastOfWrongFalsely : Prop := fnEastOfRow.holds Try.pinned (OpenSpec.ofChange fnEastOfWrong)

/-- 'laws.FnSameQuarters': WHATEVER THE INPUT: true; the input reads as it did. -/
def fnSameQuartersSpec : ChangeSpec := { name := "fnSameQuarters", fn := fun _ => fun
  | [d] => { results := [.lit (.bool true)], args := [d] }
  | _ => none }
def fnSameQuartersRow : OpenClaim := { program := "ytbklcalpojkjfaa", sum := "c85561d8825c813dfc67b9f8433b3bc54da08436eab573d6b6990f0384db48aa", func := "loop.example/turtlewalks/laws.FnSameQuarters", spec := "fnSameQuarters", unfollowed := true, recurses := true, apart := false }
def FnSameQuartersSaid : Prop := fnSameQuartersRow.holds Try.pinned (OpenSpec.ofChange fnSameQuartersSpec)

/-- ITS FALSE NEIGHBOUR: 'it returns false'. Refute it at one input. -/
def fnSameQuartersWrong : ChangeSpec := { name := "fnSameQuarters", fn := fun _ => fun
  | [d] => { results := [.lit (.bool false)], args := [d] }
  | _ => none }
def FnSameQuartersWrongFalsely : Prop := fnSameQuartersRow.holds Try.pinned (OpenSpec.ofChange fnSameQuartersWrong)

/-- 'laws.FnNumberOf': WHATEVER THE INPUT: true; the input reads as it did. -/
def fnNumberOfSpec : ChangeSpec := { name := "fnNumberOf", fn := fun _ => fun
  | [d] => { results := [.lit (.bool true)], args := [d] }
  | _ => none }
def fnNumberOfRow : OpenClaim := { program := "ytbklcalpojkjfaa", sum := "c85561d8825c813dfc67b9f8433b3bc54da08436eab573d6b6990f0384db48aa", func := "loop.example/turtlewalks/laws.FnNumberOf", spec := "fnNumberOf", unfollowed := true, recurses := true, apart := false }
def FnNumberOfSaid : Prop := fnNumberOfRow.holds Try.pinned (OpenSpec.ofChange fnNumberOfSpec)

/-- ITS FALSE NEIGHBOUR: 'it returns false'. Refute it at one input. -/
def fnNumberOfWrong : ChangeSpec := { name := "fnNumberOf", fn := fun _ => fun
  | [d] => { results := [.lit (.bool false)], args := [d] }
  | _ => none }
def FnNumberOfWrongFalsely : Prop := fnNumberOfRow.holds Try.pinned (OpenSpec.ofChange fnNumberOfWrong)

/-- 'laws.FnFarthestApart': WHATEVER THE INPUT: true; the input reads as it did. -/
def fnFarthestApartSpec : ChangeSpec := { name := "fnFarthestApart", fn := fun _ => fun
  | [d] => { results := [.lit (.bool true)], args := [d] }
  | _ => none }
def fnFarthestApartRow : OpenClaim := { program := "ytbklcalpojkjfaa", sum := "c85561d8825c813dfc67b9f8433b3bc54da08436eab573d6b6990f0384db48aa", func := "loop.example/turtlewalks/laws.FnFarthestApart", spec := "fnFarthestApart", unfollowed := true, recurses := true, apart := false }
def FnFarthestApartSaid : Prop := fnFarthestApartRow.holds Try.pinned (OpenSpec.ofChange fnFarthestApartSpec)

/-- ITS FALSE NEIGHBOUR: 'it returns false'. Refute it at one input. -/
def fnFarthestApartWrong : ChangeSpec := { name := "fnFarthestApart", fn := fun _ => fun
  | [d] => { results := [.lit (.bool false)], args := [d] }
  | _ => none }
def FnFarthestApartWrongFalsely : Prop := fnFarthestApartRow.holds Try.pinned (OpenSpec.ofChange fnFarthestApartWrong)

/-- 'laws.FnCellOf': WHATEVER THE INPUT: true; the input reads as it did. -/
def fnCellOfSpec : ChangeSpec := { name := "fnCellOf", fn := fun _ => fun
  | [d] => { results := [.lit (.bool true)], args := [d] }
  | _ => none }
def fnCellOfRow : OpenClaim := { program := "ytbklcalpojkjfaa", sum := "c85561d8825c813dfc67b9f8433b3bc54da08436eab573d6b6990f0384db48aa", func := "loop.example/turtlewalks/laws.FnCellOf", spec := "fnCellOf", unfollowed := true, recurses := true, apart := false }
def FnCellOfSaid : Prop := fnCellOfRow.holds Try.pinned (OpenSpec.ofChange fnCellOfSpec)

/-- ITS FALSE NEIGHBOUR: 'it returns false'. Refute it at one input. -/
def fnCellOfWrong : ChangeSpec := { name := "fnCellOf", fn := fun _ => fun
  | [d] => { results := [.lit (.bool false)], args := [d] }
  | _ => none }
def FnCellOfWrongFalsely : Prop := fnCellOfRow.holds Try.pinned (OpenSpec.ofChange fnCellOfWrong)

/- THE SECOND FORM. 'bulk': how many values and letters a reading holds, each counted each time it is reached (what is shared counts as often as it is met; a slice's spare places count too). A statement '..UptoSaid' is the law's where the arguments, and the package variables that the reading takes, are together of bulk at most 1048576: NARROWER than '..Said'. Prove '..Said' where nothing that the law and all that it calls make is longer than what came in: it says more and counts as full. Else prove '..UptoSaid'. A law counts once. -/
mutual
def uptoBulk {H : Type} : DataW H → Nat
  | .lit (.string bytes) => bytes.length + 1
  | .lit _ => 1
  | .nil => 1
  | .ptr d => uptoBulk d + 1
  | .slice elems spare => uptoBulkAll elems + uptoBulkAll spare + 1
  | .agg parts => uptoBulkAll parts + 1
  | .iface _ d => uptoBulk d + 1
  | .map entries => uptoBulkEntries entries + 1
  | .held _ => 1
def uptoBulkAll {H : Type} : List (DataW H) → Nat
  | [] => 0
  | d :: r => uptoBulk d + uptoBulkAll r
def uptoBulkEntries {H : Type} : List (Lit × DataW H) → Nat
  | [] => 0
  | x :: r => uptoBulkEntry x + uptoBulkEntries r
def uptoBulkEntry {H : Type} : Lit × DataW H → Nat
  | (.string bytes, d) => bytes.length + uptoBulk d + 1
  | (_, d) => uptoBulk d + 1
 end
def uptoSmall : (H : Type) → List (DataW H) → Bool := fun _ ds => decide (uptoBulkAll ds ≤ 1048576)
def OpenSpec.upto (s : _root_.Go.ChangeSpec) : _root_.Go.OpenSpec := { _root_.Go.OpenSpec.ofChange s with cond := some uptoSmall }

/-- 'laws.FnExactUnwovenOf', WHERE WHAT IT READS IS OF BULK AT MOST 1048576: true; the input reads as it did. -/
def fnExactUnwovenOfUptoRow : OpenClaim := { program := "ytbklcalpojkjfaa", sum := "c85561d8825c813dfc67b9f8433b3bc54da08436eab573d6b6990f0384db48aa", func := "loop.example/turtlewalks/laws.FnExactUnwovenOf", spec := "fnExactUnwovenOf", apart := false, narrowed := true }
def FnExactUnwovenOfUptoSaid : Prop := fnExactUnwovenOfUptoRow.holds Try.pinned (OpenSpec.upto fnExactUnwovenOfSpec)

/-- 'laws.FnExactWovenOf', WHERE WHAT IT READS IS OF BULK AT MOST 1048576: true; the input reads as it did. -/
def fnExactWovenOfUptoRow : OpenClaim := { program := "ytbklcalpojkjfaa", sum := "c85561d8825c813dfc67b9f8433b3bc54da08436eab573d6b6990f0384db48aa", func := "loop.example/turtlewalks/laws.FnExactWovenOf", spec := "fnExactWovenOf", apart := false, narrowed := true }
def FnExactWovenOfUptoSaid : Prop := fnExactWovenOfUptoRow.holds Try.pinned (OpenSpec.upto fnExactWovenOfSpec)

/-- 'laws.FnExactEastOf', WHERE WHAT IT READS IS OF BULK AT MOST 1048576: true; the input reads as it did. -/
def fnExactEastOfUptoRow : OpenClaim := { program := "ytbklcalpojkjfaa", sum := "c85561d8825c813dfc67b9f8433b3bc54da08436eab573d6b6990f0384db48aa", func := "loop.example/turtlewalks/laws.FnExactEastOf", spec := "fnExactEastOf", apart := false, narrowed := true }
def FnExactEastOfUptoSaid : Prop := fnExactEastOfUptoRow.holds Try.pinned (OpenSpec.upto fnExactEastOfSpec)

/-- 'laws.FnExactNumberOf', WHERE WHAT IT READS IS OF BULK AT MOST 1048576: true; the input reads as it did. -/
def fnExactNumberOfUptoRow : OpenClaim := { program := "ytbklcalpojkjfaa", sum := "c85561d8825c813dfc67b9f8433b3bc54da08436eab573d6b6990f0384db48aa", func := "loop.example/turtlewalks/laws.FnExactNumberOf", spec := "fnExactNumberOf", unfollowed := true, recurses := true, apart := false, narrowed := true }
def FnExactNumberOfUptoSaid : Prop := fnExactNumberOfUptoRow.holds Try.pinned (OpenSpec.upto fnExactNumberOfSpec)

/-- 'laws.FnExactCellOf', WHERE WHAT IT READS IS OF BULK AT MOST 1048576: true; the input reads as it did. -/
def fnExactCellOfUptoRow : OpenClaim := { program := "ytbklcalpojkjfaa", sum := "c85561d8825c813dfc67b9f8433b3bc54da08436eab573d6b6990f0384db48aa", func := "loop.example/turtlewalks/laws.FnExactCellOf", spec := "fnExactCellOf", unfollowed := true, recurses := true, apart := false, narrowed := true }
def FnExactCellOfUptoSaid : Prop := fnExactCellOfUptoRow.holds Try.pinned (OpenSpec.upto fnExactCellOfSpec)

/-- 'laws.FnUnwovenOf', WHERE WHAT IT READS IS OF BULK AT MOST 1048576: true; the input reads as it did. -/
def fnUnwovenOfUptoRow : OpenClaim := { program := "ytbklcalpojkjfaa", sum := "c85561d8825c813dfc67b9f8433b3bc54da08436eab573d6b6990f0384db48aa", func := "loop.example/turtlewalks/laws.FnUnwovenOf", spec := "fnUnwovenOf", apart := false, narrowed := true }
def FnUnwovenOfUptoSaid : Prop := fnUnwovenOfUptoRow.holds Try.pinned (OpenSpec.upto fnUnwovenOfSpec)

/-- 'laws.FnWovenOf', WHERE WHAT IT READS IS OF BULK AT MOST 1048576: true; the input reads as it did. -/
def fnWovenOfUptoRow : OpenClaim := { program := "ytbklcalpojkjfaa", sum := "c85561d8825c813dfc67b9f8433b3bc54da08436eab573d6b6990f0384db48aa", func := "loop.example/turtlewalks/laws.FnWovenOf", spec := "fnWovenOf", apart := false, narrowed := true }
def FnWovenOfUptoSaid : Prop := fnWovenOfUptoRow.holds Try.pinned (OpenSpec.upto fnWovenOfSpec)

/-- 'laws.FnExactSameQuarters', WHERE WHAT IT READS IS OF BULK AT MOST 1048576: true; the input reads as it did. -/
def fnExactSameQuartersUptoRow : OpenClaim := { program := "ytbklcalpojkjfaa", sum := "c85561d8825c813dfc67b9f8433b3bc54da08436eab573d6b6990f0384db48aa", func := "loop.example/turtlewalks/laws.FnExactSameQuarters", spec := "fnExactSameQuarters", unfollowed := true, recurses := true, apart := false, narrowed := true }
def FnExactSameQuartersUptoSaid : Prop := fnExactSameQuartersUptoRow.holds Try.pinned (OpenSpec.upto fnExactSameQuartersSpec)

/-- 'laws.FnExactFarthestApart', WHERE WHAT IT READS IS OF BULK AT MOST 1048576: true; the input reads as it did. -/
def fnExactFarthestApartUptoRow : OpenClaim := { program := "ytbklcalpojkjfaa", sum := "c85561d8825c813dfc67b9f8433b3bc54da08436eab573d6b6990f0384db48aa", func := "loop.example/turtlewalks/laws.FnExactFarthestApart", spec := "fnExactFarthestApart", unfollowed := true, recurses := true, apart := false, narrowed := true }
def FnExactFarthestApartUptoSaid : Prop := fnExactFarthestApartUptoRow.holds Try.pinned (OpenSpec.upto fnExactFarthestApartSpec)

/-- 'laws.FnEastOf', WHERE WHAT IT READS IS OF BULK AT MOST 1048576: true; the input reads as it did. -/
def fnEastOfUptoRow : OpenClaim := { program := "ytbklcalpojkjfaa", sum := "c85561d8825c813dfc67b9f8433b3bc54da08436eab573d6b6990f0384db48aa", func := "loop.example/turtlewalks/laws.FnEastOf", spec := "fnEastOf", apart := false, narrowed := true }
def FnEastOfUptoSaid : Prop := fnEastOfUptoRow.holds Try.pinned (OpenSpec.upto fnEastOfSpec)

/-- 'laws.FnSameQuarters', WHERE WHAT IT READS IS OF BULK AT MOST 1048576: true; the input reads as it did. -/
def fnSameQuartersUptoRow : OpenClaim := { program := "ytbklcalpojkjfaa", sum := "c85561d8825c813dfc67b9f8433b3bc54da08436eab573d6b6990f0384db48aa", func := "loop.example/turtlewalks/laws.FnSameQuarters", spec := "fnSameQuarters", unfollowed := true, recurses := true, apart := false, narrowed := true }
def FnSameQuartersUptoSaid : Prop := fnSameQuartersUptoRow.holds Try.pinned (OpenSpec.upto fnSameQuartersSpec)

/-- 'laws.FnNumberOf', WHERE WHAT IT READS IS OF BULK AT MOST 1048576: true; the input reads as it did. -/
def fnNumberOfUptoRow : OpenClaim := { program := "ytbklcalpojkjfaa", sum := "c85561d8825c813dfc67b9f8433b3bc54da08436eab573d6b6990f0384db48aa", func := "loop.example/turtlewalks/laws.FnNumberOf", spec := "fnNumberOf", unfollowed := true, recurses := true, apart := false, narrowed := true }
def FnNumberOfUptoSaid : Prop := fnNumberOfUptoRow.holds Try.pinned (OpenSpec.upto fnNumberOfSpec)

/-- 'laws.FnFarthestApart', WHERE WHAT IT READS IS OF BULK AT MOST 1048576: true; the input reads as it did. -/
def fnFarthestApartUptoRow : OpenClaim := { program := "ytbklcalpojkjfaa", sum := "c85561d8825c813dfc67b9f8433b3bc54da08436eab573d6b6990f0384db48aa", func := "loop.example/turtlewalks/laws.FnFarthestApart", spec := "fnFarthestApart", unfollowed := true, recurses := true, apart := false, narrowed := true }
def FnFarthestApartUptoSaid : Prop := fnFarthestApartUptoRow.holds Try.pinned (OpenSpec.upto fnFarthestApartSpec)

/-- 'laws.FnCellOf', WHERE WHAT IT READS IS OF BULK AT MOST 1048576: true; the input reads as it did. -/
def fnCellOfUptoRow : OpenClaim := { program := "ytbklcalpojkjfaa", sum := "c85561d8825c813dfc67b9f8433b3bc54da08436eab573d6b6990f0384db48aa", func := "loop.example/turtlewalks/laws.FnCellOf", spec := "fnCellOf", unfollowed := true, recurses := true, apart := false, narrowed := true }
def FnCellOfUptoSaid : Prop := fnCellOfUptoRow.holds Try.pinned (OpenSpec.upto fnCellOfSpec)

end Rows
end Go.Proofs.Ytbklcalpojkjfaa
