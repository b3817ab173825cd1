/- What does not turn goes off or is closed: the law answers true for every code. No condition; the package variable 'directions' starts as the program's text lays it, which the card ties. -/
import Derived.Test.YtbeacmealippmaaDoorCards
import Derived.Test.YtbeacmealippmaaDoorTie
import Derived.Test.YtbeacmealippmaaDoorDirs
import Derived.Test.YtbeacmealippmaaDoorKit
import Derived.Test.YtbeacmealippmaaDoorWOff
import Derived.ProofKit
import Derived.OpenShut
import Derived.ShutString
import Derived.ChangeOld
import Derived.Deep.DeepHandedRow
import Derived.Lib.LaidTab
import Derived.OpenVars
import Derived.ChangeVars
namespace Go.Proofs.YtbeacmealippmaaDoor
open Go.ChangeShapes Go.WideShapes Go.ChangeAt Go.RowKit

theorem fnGoingOff_contract (H : Type) (enc : TypeId × Value → H) (W : World) (base : Nat) (args : Array Value) (ds gs : List (DataW H)) (before : List MemPlace)
    (hval : ∀ (j : Nat) t v, Tryd.f7.params[j]? = some t → args[j]? = some v → Value.okWide Tryd.prog W .any base t v)
    (hW : DataW.Whole enc Tryd.prog Tryd.f7.params.toList Rows.fnGoingOffSpec.vars false W args.toList ds gs before) (hL : laidMetH Tryd.prog Rows.fnGoingOffRow.laid W) :
    Calls Tryd.prog 7 args W fun e W' => ∃ v, e = .returned v ∧ Rows.fnGoingOffSpec.post enc Tryd.prog Tryd.f7 false true false false W args v W' := by
  have hW' := hW
  obtain ⟨p, q, hA0, hV, rfl, hfz, hnd⟩ := hW
  have hA : DataW.TrodAll enc Tryd.prog W 0 (fun _ => true) true Tryd.f7.params.toList args.toList ds p := hA0
  rw [Tryd.params7] at hA hval
  obtain ⟨v0, vs0, d0, ds0, p0, q0, hargs, rfl, rfl, h0, r0⟩ := trodAll_cons hA
  obtain ⟨rfl, rfl, rfl⟩ := trodAll_nil r0
  obtain rfl : args = #[v0] := by cases args; simp_all
  obtain ⟨a0, len0, cap0, rfl⟩ := okWide_slice Tryd.underlying27 (hval 0 27 v0 rfl rfl)
  have k0 := h0
  have lt0 : ∀ x ∈ p0, x.block < W.heap.size := by obtain ⟨m, hm⟩ := k0; exact DataW.trod_lt m _ _ _ hm
  obtain ⟨z0, w0⟩ : ∃ zs, IsRow .u8 W a0 len0 cap0 zs := by
    obtain ⟨fuel, hf⟩ := h0
    rcases open_ints Tryd.underlying27 Tryd.underlying5 (by kernel_rfl) hf with ⟨hcs, _⟩ | ⟨x, l, c, zs, hcs, _, hl, hm, hz, _, hcell, hwz⟩
    · simp [Value.cells] at hcs
      obtain ⟨rfl, rfl, rfl⟩ := hcs
      exact ⟨[], .inl ⟨rfl, rfl, rfl, rfl⟩⟩
    · simp [Value.cells] at hcs
      obtain ⟨rfl, rfl, rfl⟩ := hcs
      exact ⟨zs, .inr ⟨_, rfl, hl, hm, by simpa using hz, hcell, hwz⟩⟩
  clear hA0
  refine (walk_FnGoingOff a0 len0 cap0 z0 W w0 (dirs_of_laid hL)).mono fun e W' ⟨he, bel⟩ => ?_
  subst he
  have hv1 := Below.trodVars laidOut bel (by kernel_rfl) hV
  obtain ⟨gd, rfl⟩ : ∃ d, gs = [d] := by obtain ⟨_, _, _, _, d, _, h, _⟩ := trodVars_one hV; exact ⟨d, h⟩
  exact ⟨_, rfl, _, _, _, [], _, _, hW', trodAll_mk1 (shut_bool Tryd.underlying4 _), (trodAll_cons_mk (Below.trod laidOut (by kernel_rfl) (of_decide_eq_true (by kernel_rfl)) k0 bel lt0) trodAll_mk0), hv1, bel.frame _, fun h => by cases h⟩

theorem fnGoingOff_reads (os : Os) {H : Type} (enc : TypeId × Value → H) : ∃ places, DataW.whole enc Tryd.prog ((laidWorld os).forCall (fun _ _ => 0) ⟨#[], #[(.slice none 0 0 : Value)], []⟩).memory Tryd.f7.params.toList Rows.fnGoingOffSpec.vars false (#[(.slice none 0 0 : Value)] : Array Value).toList 8 = some ([.nil], [Rows.laid_loop_example_turtlewalks_impl_directions], places) :=
  ⟨MemPlace.row ⟨0, 0, none⟩ 8, by kernel_rfl⟩
theorem fnGoingOff_met (os : Os) : laidMet Tryd.prog Rows.fnGoingOffRow.laid ((laidWorld os).forCall (fun _ _ => 0) ⟨#[], #[(.slice none 0 0 : Value)], []⟩).memory :=
  laidMet_of_run' 8 (by kernel_rfl) (by kernel_rfl)
set_option maxRecDepth 100000 in
theorem fnGoingOff_lifted (os : Os) (started : os.Started) (H : Type) (enc : TypeId × Value → H) (F : Stop.Interp) :
    ReturnsInHanded {} Tryd.checked os 7 .any ((OpenSpec.ofChange Rows.fnGoingOffSpec).preRow enc Tryd.prog Tryd.f7 Rows.fnGoingOffRow.domain false Rows.fnGoingOffRow.laid) (((OpenSpec.ofChange Rows.fnGoingOffSpec).at F).post enc Tryd.prog Tryd.f7 false true false false) := by
  obtain ⟨places, hx⟩ := fnGoingOff_reads os enc
  refine returnsInHanded_of_row (C := Tryd.checked) (s := OpenSpec.ofChange Rows.fnGoingOffSpec) own started (by kernel_rfl) Tryd.func7
    (witness_row_at (enc := enc) (C := Tryd.checked) false (laidWorld os) #[(.slice none 0 0 : Value)] rfl (by kernel_rfl) (by kernel_rfl) (by kernel_rfl)
      (OpenSpec.preRow_of_cond 8 hx (by kernel_rfl) (fun k hk => by cases hk) (by kernel_rfl) (fnGoingOff_met os))) ?_
  intro W base args ds gs before hval hW _ _ _ hL _ _
  exact fnGoingOff_contract H enc W base args ds gs before hval hW hL
theorem fnGoingOff_said : Rows.FnGoingOffSaid :=
  OpenClaim.holds_of_cond 7 Tryd.f7 rfl rfl rfl rfl rfl rfl rfl ⟨rfl, rfl, rfl, rfl, rfl⟩ rfl rfl rfl rfl rfl (by kernel_rfl) Tryd.func7 (by kernel_rfl)
    (of_decide_eq_true (by kernel_rfl)) (by unfold Func.isWrapper; first | (rw [if_pos (by decide +kernel)]; kernel_rfl) | (rw [if_neg (by decide +kernel)]; exact ⟨rfl, rfl⟩))
    (fun os started H enc _ F => by rw [OpenClaim.pre_eq_preRow]; exact fnGoingOff_lifted os started H enc F)
theorem fnGoingOff_plain (f : FuncId) (fn : Func) (hf : Tryd.pinned.checked.prog.funcNamed "loop.example/turtlewalks/laws.FnGoingOff" = some f) (hfn : Tryd.pinned.checked.prog.funcs[f]? = some fn) :
    false = Tryd.pinned.checked.prog.looks [] ∧ ∀ (j : Nat) t, fn.params[j]? = some t → Tryd.pinned.checked.prog.wantsStandIn t = false := by
  obtain rfl : f = 7 := Option.some.inj ((show Tryd.prog.funcNamed "loop.example/turtlewalks/laws.FnGoingOff" = some 7 by kernel_rfl).symm.trans hf) |>.symm
  obtain rfl : fn = Tryd.f7 := (Option.some.inj (Tryd.func7.symm.trans hfn)).symm
  refine ⟨by kernel_rfl, fun j t ht => ?_⟩
  rw [Tryd.params7] at ht
  have hm : t = 27 := by simpa using Array.mem_of_getElem? ht
  subst hm
  exact (show Tryd.prog.wantsStandIn 27 = false by kernel_rfl)

/-- THE STATEMENT: THE CARD. -/
theorem fnGoingOff_card : Rows.FnGoingOffCardSaid :=
  Claim7.holds_tied_plain_at .later [] _ _ _ _ fnGoingOff_said (fun _ h => by cases h) (by kernel_rfl) (fun _ h => by cases h) fnGoingOff_row_tie rfl ⟨rfl, rfl⟩ (by kernel_rfl) rfl fnGoingOff_plain (by kernel_rfl)
#print axioms fnGoingOff_card
end Go.Proofs.YtbeacmealippmaaDoor
