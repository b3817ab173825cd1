/- The program's ClosedSpirals returns what the reference's returns: the law answers true for all arguments. No condition; the package variable 'directions' starts as the program's text lays it, which the card ties. -/
import Derived.Test.YtbeacmealippmaaDoorCards
import Derived.Test.YtbeacmealippmaaDoorTie
import Derived.Test.YtbeacmealippmaaDoorDirs
import Derived.Test.YtbeacmealippmaaDoorKit
import Derived.Test.YtbeacmealippmaaDoorWClosedE
import Derived.ProofKit
import Derived.OpenShut
import Derived.ShutString
import Derived.ChangeOld
import Derived.Deep.DeepHandedRow
import Derived.Lib.LaidTab
import Derived.OpenVars
import Derived.ChangeVars
namespace Go.Proofs.YtbeacmealippmaaDoor
open Go.ChangeShapes Go.WideShapes Go.ChangeAt Go.RowKit

theorem fnExactClosedSpirals_contract (H : Type) (enc : TypeId × Value → H) (W : World) (base : Nat) (args : Array Value) (ds gs : List (DataW H)) (before : List MemPlace)
    (hval : ∀ (j : Nat) t v, Tryd.f6.params[j]? = some t → args[j]? = some v → Value.okWide Tryd.prog W .any base t v)
    (hW : DataW.Whole enc Tryd.prog Tryd.f6.params.toList Rows.fnExactClosedSpiralsSpec.vars false W args.toList ds gs before) (hL : laidMetH Tryd.prog Rows.fnExactClosedSpiralsRow.laid W) :
    Calls Tryd.prog 6 args W fun e W' => ∃ v, e = .returned v ∧ Rows.fnExactClosedSpiralsSpec.post enc Tryd.prog Tryd.f6 false true false false W args v W' := by
  have hW' := hW
  obtain ⟨p, q, hA0, hV, rfl, hfz, hnd⟩ := hW
  have hA : DataW.TrodAll enc Tryd.prog W 0 (fun _ => true) true Tryd.f6.params.toList args.toList ds p := hA0
  rw [Tryd.params6] at hA hval
  obtain ⟨v0, vs0, d0, ds0, p0, q0, hargs, rfl, rfl, h0, r0⟩ := trodAll_cons hA
  obtain ⟨rfl, rfl, rfl⟩ := trodAll_nil r0
  obtain rfl : args = #[v0] := by cases args; simp_all
  obtain ⟨a0, rfl, rfl, rfl, w0⟩ := open_int Tryd.underlying3 (hval 0 3 v0 rfl rfl) h0
  clear hA0
  refine (walk_FnExactClosedSpirals a0 w0 W (dirs_of_laid hL)).mono fun e W' ⟨he, bel⟩ => ?_
  subst he
  have hv1 := Below.trodVars laidOut bel (by kernel_rfl) hV
  obtain ⟨gd, rfl⟩ : ∃ d, gs = [d] := by obtain ⟨_, _, _, _, d, _, h, _⟩ := trodVars_one hV; exact ⟨d, h⟩
  exact ⟨_, rfl, _, _, _, [], _, _, hW', trodAll_mk1 (shut_bool Tryd.underlying4 _), (trodAll_cons_mk (shut_int Tryd.underlying3 w0) trodAll_mk0), hv1, bel.frame _, fun h => by cases h⟩

theorem fnExactClosedSpirals_reads (os : Os) {H : Type} (enc : TypeId × Value → H) : ∃ places, DataW.whole enc Tryd.prog ((laidWorld os).forCall (fun _ _ => 0) ⟨#[], #[(.int .i64 0 : Value)], []⟩).memory Tryd.f6.params.toList Rows.fnExactClosedSpiralsSpec.vars false (#[(.int .i64 0 : Value)] : Array Value).toList 8 = some ([.lit (.int .i64 0)], [Rows.laid_loop_example_turtlewalks_impl_directions], places) :=
  ⟨MemPlace.row ⟨0, 0, none⟩ 8, by kernel_rfl⟩
theorem fnExactClosedSpirals_met (os : Os) : laidMet Tryd.prog Rows.fnExactClosedSpiralsRow.laid ((laidWorld os).forCall (fun _ _ => 0) ⟨#[], #[(.int .i64 0 : Value)], []⟩).memory :=
  laidMet_of_run' 8 (by kernel_rfl) (by kernel_rfl)
set_option maxRecDepth 100000 in
theorem fnExactClosedSpirals_lifted (os : Os) (started : os.Started) (H : Type) (enc : TypeId × Value → H) (F : Stop.Interp) :
    ReturnsInHanded {} Tryd.checked os 6 .any ((OpenSpec.ofChange Rows.fnExactClosedSpiralsSpec).preRow enc Tryd.prog Tryd.f6 Rows.fnExactClosedSpiralsRow.domain false Rows.fnExactClosedSpiralsRow.laid) (((OpenSpec.ofChange Rows.fnExactClosedSpiralsSpec).at F).post enc Tryd.prog Tryd.f6 false true false false) := by
  obtain ⟨places, hx⟩ := fnExactClosedSpirals_reads os enc
  refine returnsInHanded_of_row (C := Tryd.checked) (s := OpenSpec.ofChange Rows.fnExactClosedSpiralsSpec) own started (by kernel_rfl) Tryd.func6
    (witness_row_at (enc := enc) (C := Tryd.checked) false (laidWorld os) #[(.int .i64 0 : Value)] rfl (by kernel_rfl) (by kernel_rfl) (by kernel_rfl)
      (OpenSpec.preRow_of_cond 8 hx (by kernel_rfl) (fun k hk => by cases hk) (by kernel_rfl) (fnExactClosedSpirals_met os))) ?_
  intro W base args ds gs before hval hW _ _ _ hL _ _
  exact fnExactClosedSpirals_contract H enc W base args ds gs before hval hW hL
theorem fnExactClosedSpirals_said : Rows.FnExactClosedSpiralsSaid :=
  OpenClaim.holds_of_cond 6 Tryd.f6 rfl rfl rfl rfl rfl rfl rfl ⟨rfl, rfl, rfl, rfl, rfl⟩ rfl rfl rfl rfl rfl (by kernel_rfl) Tryd.func6 (by kernel_rfl)
    (of_decide_eq_true (by kernel_rfl)) (by unfold Func.isWrapper; first | (rw [if_pos (by decide +kernel)]; kernel_rfl) | (rw [if_neg (by decide +kernel)]; exact ⟨rfl, rfl⟩))
    (fun os started H enc _ F => by rw [OpenClaim.pre_eq_preRow]; exact fnExactClosedSpirals_lifted os started H enc F)
theorem fnExactClosedSpirals_plain (f : FuncId) (fn : Func) (hf : Tryd.pinned.checked.prog.funcNamed "loop.example/turtlewalks/laws.FnExactClosedSpirals" = some f) (hfn : Tryd.pinned.checked.prog.funcs[f]? = some fn) :
    false = Tryd.pinned.checked.prog.looks [] ∧ ∀ (j : Nat) t, fn.params[j]? = some t → Tryd.pinned.checked.prog.wantsStandIn t = false := by
  obtain rfl : f = 6 := Option.some.inj ((show Tryd.prog.funcNamed "loop.example/turtlewalks/laws.FnExactClosedSpirals" = some 6 by kernel_rfl).symm.trans hf) |>.symm
  obtain rfl : fn = Tryd.f6 := (Option.some.inj (Tryd.func6.symm.trans hfn)).symm
  refine ⟨by kernel_rfl, fun j t ht => ?_⟩
  rw [Tryd.params6] at ht
  have hm : t = 3 := by simpa using Array.mem_of_getElem? ht
  subst hm
  exact (show Tryd.prog.wantsStandIn 3 = false by kernel_rfl)

/-- THE STATEMENT: THE CARD. -/
theorem fnExactClosedSpirals_card : Rows.FnExactClosedSpiralsCardSaid :=
  Claim7.holds_tied_plain_at .later [] _ _ _ _ fnExactClosedSpirals_said (fun _ h => by cases h) (by kernel_rfl) (fun _ h => by cases h) fnExactClosedSpirals_row_tie rfl ⟨rfl, rfl⟩ (by kernel_rfl) rfl fnExactClosedSpirals_plain (by kernel_rfl)
#print axioms fnExactClosedSpirals_card
end Go.Proofs.YtbeacmealippmaaDoor
