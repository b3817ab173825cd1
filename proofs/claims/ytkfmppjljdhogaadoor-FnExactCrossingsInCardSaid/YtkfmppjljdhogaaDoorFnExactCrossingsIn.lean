/- The program's CrossingsIn returns what the reference's returns: the law answers true for all arguments. No condition; the package variable 'directions' starts as the program's text lays it, which the card ties. -/
import Derived.Test.YtkfmppjljdhogaaDoorCards
import Derived.Test.YtkfmppjljdhogaaDoorTie
import Derived.Test.YtkfmppjljdhogaaDoorDirs
import Derived.Test.YtkfmppjljdhogaaDoorKit
import Derived.Test.YtkfmppjljdhogaaDoorWCrE
import Derived.ProofKit
import Derived.OpenShut
import Derived.ShutString
import Derived.ChangeOld
import Derived.Deep.DeepHandedRow
import Derived.Lib.LaidTab
import Derived.OpenVars
import Derived.ChangeVars
namespace Go.Proofs.YtkfmppjljdhogaaDoor
open Go.ChangeShapes Go.WideShapes Go.ChangeAt Go.RowKit
open Go.ChangeMaps (open_string shut_string)

theorem fnExactCrossingsIn_contract (H : Type) (enc : TypeId × Value → H) (W : World) (base : Nat) (args : Array Value) (ds gs : List (DataW H)) (before : List MemPlace)
    (hval : ∀ (j : Nat) t v, Tryd.f7.params[j]? = some t → args[j]? = some v → Value.okWide Tryd.prog W .any base t v)
    (hW : DataW.Whole enc Tryd.prog Tryd.f7.params.toList Rows.fnExactCrossingsInSpec.vars false W args.toList ds gs before) (hL : laidMetH Tryd.prog Rows.fnExactCrossingsInRow.laid W) :
    Calls Tryd.prog 7 args W fun e W' => ∃ v, e = .returned v ∧ Rows.fnExactCrossingsInSpec.post enc Tryd.prog Tryd.f7 false true false false W args v W' := by
  have hW' := hW
  obtain ⟨p, q, hA0, hV, rfl, hfz, hnd⟩ := hW
  have hA : DataW.TrodAll enc Tryd.prog W 0 (fun _ => true) true Tryd.f7.params.toList args.toList ds p := hA0
  rw [Tryd.params7] at hA hval
  obtain ⟨v0, vs0, d0, ds0, p0, q0, hargs, rfl, rfl, h0, r0⟩ := trodAll_cons hA
  obtain ⟨rfl, rfl, rfl⟩ := trodAll_nil r0
  obtain rfl : args = #[v0] := by cases args; simp_all
  obtain ⟨s0, rfl, rfl, rfl, w0⟩ := open_string Tryd.underlying9 (hval 0 9 v0 rfl rfl) h0
  clear hA0
  refine (walk_FnExactCrossingsIn s0 w0 W (dirs_of_laid hL)).mono fun e W' ⟨he, bel⟩ => ?_
  subst he
  have hv1 := Below.trodVars laidOut bel (by kernel_rfl) hV
  obtain ⟨gd, rfl⟩ : ∃ d, gs = [d] := by obtain ⟨_, _, _, _, d, _, h, _⟩ := trodVars_one hV; exact ⟨d, h⟩
  exact ⟨_, rfl, _, _, _, [], _, _, hW', trodAll_mk1 (shut_bool Tryd.underlying4 _), (trodAll_cons_mk (shut_string Tryd.underlying9 w0) trodAll_mk0), hv1, bel.frame _, fun h => by cases h⟩

theorem fnExactCrossingsIn_reads (os : Os) {H : Type} (enc : TypeId × Value → H) : ∃ places, DataW.whole enc Tryd.prog ((laidWorld os).forCall (fun _ _ => 0) ⟨#[], #[(.string ByteArray.empty : Value)], []⟩).memory Tryd.f7.params.toList Rows.fnExactCrossingsInSpec.vars false (#[(.string ByteArray.empty : Value)] : Array Value).toList 8 = some ([.lit (.string [])], [Rows.laid_loop_example_turtlewalks_impl_directions], places) :=
  ⟨MemPlace.row ⟨0, 0, none⟩ 8, by kernel_rfl⟩
theorem fnExactCrossingsIn_met (os : Os) : laidMet Tryd.prog Rows.fnExactCrossingsInRow.laid ((laidWorld os).forCall (fun _ _ => 0) ⟨#[], #[(.string ByteArray.empty : Value)], []⟩).memory :=
  laidMet_of_run' 8 (by kernel_rfl) (by kernel_rfl)
set_option maxRecDepth 100000 in
theorem fnExactCrossingsIn_lifted (os : Os) (started : os.Started) (H : Type) (enc : TypeId × Value → H) (F : Stop.Interp) :
    ReturnsInHanded {} Tryd.checked os 7 .any ((OpenSpec.ofChange Rows.fnExactCrossingsInSpec).preRow enc Tryd.prog Tryd.f7 Rows.fnExactCrossingsInRow.domain false Rows.fnExactCrossingsInRow.laid) (((OpenSpec.ofChange Rows.fnExactCrossingsInSpec).at F).post enc Tryd.prog Tryd.f7 false true false false) := by
  obtain ⟨places, hx⟩ := fnExactCrossingsIn_reads os enc
  refine returnsInHanded_of_row (C := Tryd.checked) (s := OpenSpec.ofChange Rows.fnExactCrossingsInSpec) own started (by kernel_rfl) Tryd.func7
    (witness_row_at (enc := enc) (C := Tryd.checked) false (laidWorld os) #[(.string ByteArray.empty : Value)] rfl (by kernel_rfl) (by kernel_rfl) (by kernel_rfl)
      (OpenSpec.preRow_of_cond 8 hx (by kernel_rfl) (fun k hk => by cases hk) (by kernel_rfl) (fnExactCrossingsIn_met os))) ?_
  intro W base args ds gs before hval hW _ _ _ hL _ _
  exact fnExactCrossingsIn_contract H enc W base args ds gs before hval hW hL
theorem fnExactCrossingsIn_said : Rows.FnExactCrossingsInSaid :=
  OpenClaim.holds_of_cond 7 Tryd.f7 rfl rfl rfl rfl rfl rfl rfl ⟨rfl, rfl, rfl, rfl, rfl⟩ rfl rfl rfl rfl rfl (by kernel_rfl) Tryd.func7 (by kernel_rfl)
    (of_decide_eq_true (by kernel_rfl)) (by unfold Func.isWrapper; first | (rw [if_pos (by decide +kernel)]; kernel_rfl) | (rw [if_neg (by decide +kernel)]; exact ⟨rfl, rfl⟩))
    (fun os started H enc _ F => by rw [OpenClaim.pre_eq_preRow]; exact fnExactCrossingsIn_lifted os started H enc F)
theorem fnExactCrossingsIn_plain (f : FuncId) (fn : Func) (hf : Tryd.pinned.checked.prog.funcNamed "loop.example/turtlewalks/laws.FnExactCrossingsIn" = some f) (hfn : Tryd.pinned.checked.prog.funcs[f]? = some fn) :
    false = Tryd.pinned.checked.prog.looks [] ∧ ∀ (j : Nat) t, fn.params[j]? = some t → Tryd.pinned.checked.prog.wantsStandIn t = false := by
  obtain rfl : f = 7 := Option.some.inj ((show Tryd.prog.funcNamed "loop.example/turtlewalks/laws.FnExactCrossingsIn" = some 7 by kernel_rfl).symm.trans hf) |>.symm
  obtain rfl : fn = Tryd.f7 := (Option.some.inj (Tryd.func7.symm.trans hfn)).symm
  refine ⟨by kernel_rfl, fun j t ht => ?_⟩
  rw [Tryd.params7] at ht
  have hm : t = 9 := by simpa using Array.mem_of_getElem? ht
  subst hm
  exact (show Tryd.prog.wantsStandIn 9 = false by kernel_rfl)

/-- THE STATEMENT: THE CARD. -/
theorem fnExactCrossingsIn_card : Rows.FnExactCrossingsInCardSaid :=
  Claim7.holds_tied_plain_at .later [] _ _ _ _ fnExactCrossingsIn_said (fun _ h => by cases h) (by kernel_rfl) (fun _ h => by cases h) fnExactCrossingsIn_row_tie rfl ⟨rfl, rfl⟩ (by kernel_rfl) rfl fnExactCrossingsIn_plain (by kernel_rfl)
#print axioms fnExactCrossingsIn_card
end Go.Proofs.YtkfmppjljdhogaaDoor
