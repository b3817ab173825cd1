/- Contracts: l20Open and pick of the drawing reader. -/
import Derived.Test.YtbeacmealippmaaDoorKit
import Derived.Deep.QuietTactic
import Derived.BigQuiet
import Derived.Maps.AppendAt
import Derived.Deep.Draws
import Derived.Outline
namespace Go.Proofs.YtbeacmealippmaaDoor
open Go.RowKit

/-- A reader at block rb that has read p bytes: its code lies below rb. -/
def Rd (w : World) (rb : Nat) (p : Int) : Prop :=
  ∃ (a : Option Addr) (len cap : Nat) (zs : List Int), len ≤ 2000 ∧
    (len = 0 ∨ ∃ b off, a = some ⟨b, off, none⟩ ∧ b < rb ∧ (∀ i : Nat, i < len → w.cell? ⟨b, off + i, none⟩ = some (.int .u8 (zs[i]?.getD 0))) ∧ ∀ i : Nat, 0 ≤ zs[i]?.getD 0 ∧ zs[i]?.getD 0 ≤ 255) ∧
    w.cell? ⟨rb, 0, none⟩ = some (.slice a len cap) ∧ w.cell? ⟨rb, 1, none⟩ = some (.int .i64 p) ∧ w.frozen? ⟨rb, 1, none⟩ = false

theorem Rd.lt {w : World} {rb : Nat} {p : Int} (h : Rd w rb p) : rb < w.heap.size := by
  obtain ⟨a, len, cap, zs, _, _, h0, _⟩ := h
  exact World.block_lt_of_cell? w _ h0

/-- Whatever leaves the reader's block and all below it alone leaves the reader as it is. -/
theorem Rd.kept {w w' : World} {rb : Nat} {p : Int} (h : Rd w rb p) (hb : ∀ k, k ≤ rb → w'.heap[k]? = w.heap[k]?) : Rd w' rb p := by
  obtain ⟨a, len, cap, zs, hl, hc, h0, h1, h2⟩ := h
  refine ⟨a, len, cap, zs, hl, ?_, ?_, ?_, ?_⟩
  · rcases hc with hc | ⟨b, off, ha, hlt, hcell, hz⟩
    · exact Or.inl hc
    · exact Or.inr ⟨b, off, ha, hlt, fun i hi => (World.cell?_of_block (w := w) (hb b (by omega))).trans (hcell i hi), hz⟩
  · exact (World.cell?_of_block (w := w) (hb rb (Nat.le_refl _))).trans h0
  · exact (World.cell?_of_block (w := w) (hb rb (Nat.le_refl _))).trans h1
  · exact (World.frozen?_of_block (w := w) (hb rb (Nat.le_refl _))).trans h2

/-- What pick leaves. -/
def Picked (n : Int) (rb : Nat) (p : Int) (w : World) (e : Ending) (w' : World) : Prop :=
  ∃ v : Int, e = .returned (.int .i64 v) ∧ 0 ≤ v ∧ (1 ≤ n → v < n) ∧ (n < 1 → v = 0) ∧ Rd w' rb (p + 1) ∧ w.grownBy w' (some rb)

theorem picked_mk {n : Int} {rb : Nat} {p : Int} {w : World} (v : Int) (h0 : 0 ≤ v) (h1 : 1 ≤ n → v < n) (h2 : n < 1 → v = 0) (h : Rd w rb p) (k : Nat) :
    Picked n rb p w (.returned (.int .i64 v)) ((w.setCell ⟨rb, 1, none⟩ (.int .i64 (p + 1))).drewN k) := by
  obtain ⟨a, len, cap, zs, hl, hc, c0, c1, c2⟩ := h
  refine ⟨v, rfl, h0, h1, h2, ⟨a, len, cap, zs, hl, ?_, ?_, ?_, ?_⟩, ?_⟩
  · rcases hc with hc | ⟨b, off, ha, hlt, hcell, hz⟩
    · exact Or.inl hc
    · refine Or.inr ⟨b, off, ha, hlt, fun i hi => ?_, hz⟩
      have e := World.cell?_setCell_other (w := w) (a := ⟨rb, 1, none⟩) (b := ⟨b, off + i, none⟩) (v := .int .i64 (p + 1)) (by intro e; injection e with e1; omega)
      exact e.trans (hcell i hi)
  · have e := World.cell?_setCell_other (w := w) (a := ⟨rb, 1, none⟩) (b := ⟨rb, 0, none⟩) (v := .int .i64 (p + 1)) (by intro e; injection e; contradiction)
    exact e.trans c0
  · exact World.cell?_setCell_same (w := w) (a := ⟨rb, 1, none⟩) (v := .int .i64 (p + 1)) c1
  · exact (World.frozen?_setCell (w := w) (a := ⟨rb, 1, none⟩) (b := ⟨rb, 1, none⟩) (v := .int .i64 (p + 1))).trans c2
  · exact ⟨rfl, rfl, rfl, by simp [World.setCell], fun j hj hne => by
      show (w.setCell _ _).heap[j]? = _
      exact Below.heap_setCell _ _ _ _ (fun e => hne (by rw [e]))⟩

theorem xor_nonneg (x y : Int) (hx : 0 ≤ x) (hx' : x < 1099511627776) (hy : 0 ≤ y) (hy' : y < 1099511627776) : 0 ≤ bits .xor .i64 x y := by
  obtain ⟨a, rfl⟩ := Int.eq_ofNat_of_zero_le hx
  obtain ⟨b, rfl⟩ := Int.eq_ofNat_of_zero_le hy
  have ha : a < 2 ^ 40 := by omega
  have hb : b < 2 ^ 40 := by omega
  have hr : a ^^^ b < 2 ^ 40 := Nat.xor_lt_two_pow ha hb
  have e : (BitVec.ofInt 64 (a : Int) ^^^ BitVec.ofInt 64 (b : Int)).toNat = a ^^^ b := by
    rw [BitVec.toNat_xor, ofInt_u64 a (by omega), ofInt_u64 b (by omega)]
  show 0 ≤ IntKind.i64.wrap ((BitVec.ofInt 64 (a : Int) ^^^ BitVec.ofInt 64 (b : Int)).toNat : Int)
  rw [e, IntWalk.i64_in _ (by omega)]
  exact Int.natCast_nonneg _

theorem rem_lt {a n : Int} (_h0 : 0 ≤ a) (hn : 1 ≤ n) : 0 ≤ a % n ∧ a % n < n := ⟨Int.emod_nonneg _ (by omega), Int.emod_lt_of_pos _ (by omega)⟩

theorem pick_c (rb : Nat) (n p : Int) (w : World) (h : Rd w rb p) (hp : 0 ≤ p) (hp' : p ≤ 1000000000) :
    Calls Tryd.prog 32 #[.pointer (some ⟨rb, 0, none⟩), .int .i64 n] w (Picked n rb p w) := by
  have hm := fun v h0 h1 h2 k => picked_mk (n := n) (w := w) v h0 h1 h2 h k
  obtain ⟨a, len, cap, zs, hl, hc, c0, c1, c2⟩ := h
  obtain ⟨k, rfl⟩ := Int.eq_ofNat_of_zero_le hp
  by_cases hn : n < 1
  · clear hc
    have HM := hid hm; clear hm
    go_enter Tryd.func32, Tryd.ntmps32
    go_wp2
    go_ret
    exact HM.out 0 (Int.le_refl 0) (fun h => by omega) (fun _ => rfl) 0
  · rcases hc with hc | ⟨b, off, ha, hlt, hcell, hz⟩
    · subst hc
      have HM := hid hm; clear hm
      go_enter Tryd.func32, Tryd.ntmps32
      go_wp2
      go_ret
      exact HM.out 0 (Int.le_refl 0) (fun h => by omega) (fun _ => rfl) 0
    · subst ha
      by_cases h0 : len = 0
      · subst h0
        have HM := hid hm; clear hm hcell hz
        go_enter Tryd.func32, Tryd.ntmps32
        go_wp2
        go_ret
        exact HM.out 0 (Int.le_refl 0) (fun h => by omega) (fun _ => rfl) 0
      · have hne : ((len : Int) == 0) = false := by simp; omega
        have HC := hid hcell
        have HZ := hid hz
        have HM := hid hm
        clear hm hcell hz
        have hn1 : 1 ≤ n := by omega
        clear hn
        by_cases hk : k < len
        · have ck := HC.out k hk
          have zk := HZ.out k
          have hr := hid (rem_lt zk.1 hn1)
          go_enter Tryd.func32, Tryd.ntmps32
          go_wp2
          go_ret
          exact HM.out _ hr.out.1 (fun _ => hr.out.2) (fun h => by omega) 0
        · have m1 : k % len < len := Nat.mod_lt _ (by omega)
          have m2 : (k * 7 + 3) % len < len := Nat.mod_lt _ (by omega)
          have ca := HC.out (k % len) m1
          have cb := HC.out ((k * 7 + 3) % len) m2
          have za := HZ.out (k % len)
          have zb := HZ.out ((k * 7 + 3) % len)
          have e1 : (k : Int).tmod (len : Int) = ((k % len : Nat) : Int) := rfl
          have e2 : ((k : Int) * 7 + 3).tmod (len : Int) = (((k * 7 + 3) % len : Nat) : Int) := rfl
          have hq : 0 ≤ (k : Int) / (len : Int) ∧ (k : Int) / (len : Int) ≤ k := by
            have : (k : Int) / (len : Int) = ((k / len : Nat) : Int) := rfl
            rw [this]; exact ⟨Int.natCast_nonneg _, Int.ofNat_le.2 (Nat.div_le_self k len)⟩
          generalize k % len = q1 at *
          generalize (k * 7 + 3) % len = q2 at *
          generalize zs[q1]?.getD 0 = b1 at *
          generalize zs[q2]?.getD 0 = b2 at *
          clear HC HZ
          have w1 := IntWalk.i64_in ((k : Int) * 7) (by omega)
          have w2 := IntWalk.i64_in ((k : Int) * 7 + 3) (by omega)
          have w3 := IntWalk.i64_in b1 (by omega)
          have w4 := IntWalk.i64_in b2 (by omega)
          have w5 := IntWalk.i64_in (b1 * 131) (by omega)
          have w6 := IntWalk.i64_in (b2 * 1117) (by omega)
          have w7 := IntWalk.i64_in (b1 * 131 + b2 * 1117) (by omega)
          have w8 := IntWalk.i64_in ((k : Int) * 29) (by omega)
          have w9 := IntWalk.i64_in (b1 * 131 + b2 * 1117 + (k : Int) * 29) (by omega)
          have wa := IntWalk.i64_in ((k : Int) / (len : Int)) (by omega)
          have wb := IntWalk.i64_in ((k : Int) / (len : Int) * 53) (by omega)
          have wc := IntWalk.i64_in (b1 * 131 + b2 * 1117 + (k : Int) * 29 + (k : Int) / (len : Int) * 53) (by omega)
          have hx := hid (xor_nonneg (b1 * 131 + b2 * 1117 + (k : Int) * 29 + (k : Int) / (len : Int) * 53) ((b1 * 131 + b2 * 1117 + (k : Int) * 29 + (k : Int) / (len : Int) * 53) / 64) (by omega) (by omega) (by omega) (by omega))
          have hf1 : len ≤ k := by omega
          have hf2 : ¬ (k : Int) < (len : Int) := by omega
          go_enter Tryd.func32, Tryd.ntmps32
          go_wp2
          go_quiet (fail)
          go_wp2
          go_ret
          have hr : 0 ≤ (bits .xor .i64 (b1 * 131 + b2 * 1117 + (k : Int) * 29 + (k : Int) / (len : Int) * 53) ((b1 * 131 + b2 * 1117 + (k : Int) * 29 + (k : Int) / (len : Int) * 53) / 64)).tmod n ∧
              (bits .xor .i64 (b1 * 131 + b2 * 1117 + (k : Int) * 29 + (k : Int) / (len : Int) * 53) ((b1 * 131 + b2 * 1117 + (k : Int) * 29 + (k : Int) / (len : Int) * 53) / 64)).tmod n < n := by
            rw [Int.tmod_eq_emod_of_nonneg hx.out]; exact rem_lt hx.out (by omega)
          exact HM.out _ hr.1 (fun _ => hr.2) (fun h => by omega) _
end Go.Proofs.YtbeacmealippmaaDoor
