/- pick, with a bound on what has been read. -/
import Derived.Test.YtbeacmealippmaaDoorOpen
import Derived.Deep.DeepCutAuto
import Derived.Deep.RegionWith
namespace Go.Proofs.YtbeacmealippmaaDoor
open Go.RowKit

/-- A reader that has read at most b bytes. -/
def RdS (w : World) (rb : Nat) (b : Int) : Prop := ∃ p, 0 ≤ p ∧ p ≤ b ∧ Rd w rb p

theorem RdS.mono {w : World} {rb : Nat} {b c : Int} (h : RdS w rb b) (hbc : b ≤ c) : RdS w rb c := by
  obtain ⟨p, h1, h2, h3⟩ := h; exact ⟨p, h1, by omega, h3⟩
theorem RdS.kept {w w' : World} {rb : Nat} {b : Int} (h : RdS w rb b) (hb : ∀ k, k ≤ rb → w'.heap[k]? = w.heap[k]?) : RdS w' rb b := by
  obtain ⟨p, h1, h2, h3⟩ := h; exact ⟨p, h1, h2, h3.kept hb⟩
theorem RdS.lt {w : World} {rb : Nat} {b : Int} (h : RdS w rb b) : rb < w.heap.size := by
  obtain ⟨p, _, _, h3⟩ := h; exact h3.lt
theorem RdS.alloc {w : World} {rb : Nat} {b : Int} (h : RdS w rb b) (o : Obj) : RdS (w.alloc o) rb b :=
  h.kept (fun k hk => Below.heap_alloc w o k (by have := h.lt; omega))
theorem RdS.drew {w : World} {rb : Nat} {b : Int} (h : RdS w rb b) : RdS w.drew rb b := h.kept (fun _ _ => rfl)
theorem RdS.grown {w w' : World} {rb : Nat} {b : Int} (h : RdS w rb b) {row : Option Nat} (hg : w.grownBy w' row) (hr : ∀ k, row = some k → rb < k) : RdS w' rb b :=
  h.kept (fun k hk => hg.block k (by have := h.lt; omega) (fun e => by have := hr k e.symm; omega))

theorem Opened.rdS {w w' : World} {e : Ending} (h : Opened w e w') : ∃ rb : Nat, e = .returned (.pointer (some ⟨rb, 0, none⟩)) ∧ w.heap.size ≤ rb ∧ RdS w' rb 0 ∧ Below w.heap.size w w' := by
  obtain ⟨rb, h1, h2, h3, h4⟩ := h
  exact ⟨rb, h1, h2, ⟨0, Int.le_refl _, Int.le_refl _, h3⟩, h4⟩

theorem open_s (a : Option Addr) (len cap : Nat) (zs : List Int) (w : World) (h : IsRow .u8 w a len cap zs) :
    Calls Tryd.prog 30 #[.slice a len cap] w
      fun e w' => ∃ rb : Nat, e = .returned (.pointer (some ⟨rb, 0, none⟩)) ∧ w.heap.size ≤ rb ∧ RdS w' rb 0 ∧ Below w.heap.size w w' :=
  (open_c a len cap zs w h).mono fun _ _ h => h.rdS

/-- pick at a number of one or more: a number below it. -/
theorem pick_s (rb : Nat) (n b : Int) (w : World) (h : RdS w rb b) (hb : b ≤ 1000000) (hn : 1 ≤ n) :
    Calls Tryd.prog 32 #[.pointer (some ⟨rb, 0, none⟩), .int .i64 n] w
      fun e w' => ∃ v : Int, e = .returned (.int .i64 v) ∧ 0 ≤ v ∧ v < n ∧ RdS w' rb (b + 1) ∧ w.grownBy w' (some rb) := by
  obtain ⟨p, h1, h2, h3⟩ := h
  exact (pick_c rb n p w h3 h1 (by omega)).mono fun _ _ ⟨v, g1, g2, g3, _, g5, g6⟩ => ⟨v, g1, g2, g3 hn, ⟨p + 1, by omega, by omega, g5⟩, g6⟩

theorem grown_drew {w w' : World} {row : Option Nat} (h : w.grownBy w' row) : w.grownBy w'.drew row := h.trans ⟨rfl, rfl, rfl, Nat.le_refl _, fun _ _ _ => rfl⟩

/-- What has grown from the call's beginning on lies above what was there. -/
theorem below_of_grown {w w' : World} {B rb : Nat} (hg : w.grownBy w' (some rb)) (hB : B ≤ w.heap.size) (hr : B ≤ rb) : Below B w w' :=
  (Below.refl B w).grown hg hB (fun k hk => by cases hk; exact hr)
end Go.Proofs.YtbeacmealippmaaDoor
