/- Contracts: movedRound and MovedOn of the program. -/
import Derived.Test.YtmojhdnehmjnmaaDoorBkW
import Derived.Test.YtmojhdnehmjnmaaDoorWkD
import Derived.Test.YtmojhdnehmjnmaaDoorWkF
namespace Go.Proofs.YtmojhdnehmjnmaaDoor
open Go.RowKit TW

theorem add_at (b o j : Nat) : (⟨b, o, none⟩ : Addr).add j = ⟨b, o + j, none⟩ := by unfold Addr.add; split <;> simp_all
theorem bc_drop_cells {W : World} {lb : Nat} {L : List UInt8} (hc : ∀ i (h : i < L.length), W.cell? ⟨lb, i, none⟩ = some (.int .u8 (L[i].toNat : Int))) (k : Nat) :
    ∀ (j : Nat) (u : Value), (bc (L.drop k))[j]? = some u → W.cell? ((⟨lb, k, none⟩ : Addr).add j) = some u := by
  intro j u hj
  rw [add_at]
  have hl : j < (L.drop k).length := by
    have := (List.getElem?_eq_some_iff.1 hj).1
    rwa [bc_len] at this
  have hl2 : k + j < L.length := by rw [List.length_drop] at hl; omega
  rw [bc_at _ _ hl, List.getElem_drop] at hj
  rw [hc _ hl2]; exact hj
theorem bc_take_cells {W : World} {lb : Nat} {L : List UInt8} (hc : ∀ i (h : i < L.length), W.cell? ⟨lb, i, none⟩ = some (.int .u8 (L[i].toNat : Int))) (k : Nat) :
    ∀ (j : Nat) (u : Value), (bc (L.take k))[j]? = some u → W.cell? ((⟨lb, 0, none⟩ : Addr).add j) = some u := by
  intro j u hj
  rw [add_at, Nat.zero_add]
  have hl : j < (L.take k).length := by
    have := (List.getElem?_eq_some_iff.1 hj).1
    rwa [bc_len] at this
  have hl2 : j < L.length := by rw [List.length_take] at hl; omega
  rw [bc_at _ _ hl, List.getElem_take] at hj
  rw [hc _ hl2]; exact hj
theorem bc_one (L : List UInt8) : ∀ u ∈ bc L, u.oneCell' = true := by
  intro u hu
  unfold bc at hu
  obtain ⟨b, _, rfl⟩ := List.mem_map.1 hu
  rfl

theorem ret_sl {a : Option Addr} {n m c : Nat} (h : n = m) : Ending.returned (.slice a n c) = .returned (.slice a m c) := by rw [h]
set_option maxHeartbeats 4000000 in
theorem movedRound_c (lb cap : Nat) (L : List UInt8) (n k : Nat) (hn : L.length = n) (hL : n ≤ 40) (hk : k < n) (hcap : n ≤ cap) (hcm : cap ≤ maxLen) (w : World) (hlb : lb < w.heap.size)
    (hc : ∀ i (h : i < L.length), w.cell? ⟨lb, i, none⟩ = some (.int .u8 (L[i].toNat : Int))) :
    Calls Tryd.prog 51 #[.slice (some ⟨lb, 0, none⟩) n cap, .int .i64 (k : Int)] w
      fun e w' => e = .returned (.slice (some ⟨w.heap.size, 0, none⟩) n n) ∧ w'.ownsRow w.heap.size 5 1 (.slice (some ⟨w.heap.size, 0, none⟩) n n) n (bc (movedL L k)) ∧ Below w.heap.size w w' := by
  obtain ⟨i0, hi, hz0, hz1, hz2⟩ := info_parts infoU8
  have HC := hid hc
  have HM : Hid (bc (movedL L k) = bc (L.drop k) ++ bc (L.take k)) := hid (by unfold movedL; rw [bc_append])
  have HD : Hid ((bc (L.drop k)).length = (n - k) * 1) := hid (by rw [bc_len, List.length_drop]; omega)
  have HT : Hid ((bc (L.take k)).length = k * 1) := hid (by rw [bc_len, List.length_take]; omega)
  unfold maxLen at hcm
  have HN := hid hn
  clear hc hn
  have i1 : (k : Int) ≤ (n : Int) := by omega
  have i2 : (0 : Int) ≤ (k : Int) := Int.natCast_nonneg _
  have i3 : (n : Int) ≤ (cap : Int) := by omega
  have i4 : (k : Int) < (cap : Int) := by omega
  have i5 : ¬ cap = k := by omega
  have i6 : k ≤ cap := by omega
  have i7 : k ≤ n := by omega
  have i8 : ¬ cap < k := by omega
  have i9 : ¬ n < k := by omega
  go_enter Tryd.func51, Tryd.ntmps51
  go_wp2_with (first
    | (at_make; refine wpList_make_own _ rfl _ _ 22 rfl w.heap.size 5 i0 (.int .u8 0) 1 Tryd.underlying22 hi hz0 hz1 .i64 .i64 _ n rfl rfl rfl (by rw [hz2]; omega) (by unfold maxLen; omega) (Nat.le_refl _) ?_; intro w2 hown hg; have HO := hid hown; have HB : Hid (Below w.heap.size w w2) := hid ((Below.refl _ _).grown hg (Nat.le_refl _) (fun k hk => by cases hk)); have HS2 : Hid (w.heap.size < w2.heap.size) := hid (hown.lt w.heap.size rfl).2; clear hown hg)
    | (at_builtin; refine wpList_append_fits _ rfl (.tmp 9) (.tmp 12) 22 rfl w.heap.size 5 i0 1 Tryd.underlying22 hi hz1 w.heap.size 0 n _ rfl HO.out ⟨lb, k, none⟩ (n - k) (cap - k) (bc (L.drop k)) rfl HD.out (bc_drop_cells (fun i h => (HB.out.cell (p := ⟨lb, i, none⟩) hlb).trans (HC.out i (by have := HN.out; omega))) k) (bc_one _) (by omega) ?_; intro w3 hown3 hg3; rw [Nat.zero_add, List.nil_append] at hown3; have HO3 := hid hown3; have HB3 := hid (HB.out.grown hg3 HB.out.size (fun k hk => by cases hk; exact Nat.le_refl _)); clear hown3 hg3)
    | (at_builtin; refine wpList_append_fits _ rfl (.tmp 14) (.tmp 17) 22 rfl w.heap.size 5 i0 1 Tryd.underlying22 hi hz1 w.heap.size (n - k) n _ rfl HO3.out ⟨lb, 0, none⟩ k cap (bc (L.take k)) rfl HT.out (bc_take_cells (fun i h => (HB3.out.cell (p := ⟨lb, i, none⟩) hlb).trans (HC.out i (by have := HN.out; omega))) k) (bc_one _) (by omega) ?_; intro w4 hown4 hg4; have HO4 := hid hown4; have HB4 := hid (HB3.out.grown hg4 HB3.out.size (fun k hk => by cases hk; exact Nat.le_refl _)); clear hown4 hg4))
  go_ret
  have e : n - k + k = n := by omega
  have h4 := HO4.out
  rw [e, ← HM.out] at h4
  exact ⟨rfl, h4, HB4.out⟩

set_option maxHeartbeats 4000000 in
theorem implMovedOn_c (s : ByteArray) (k : Nat) (hk : k < s.size) (hcl : clL (lets s) = true) (w : World) (hd : Dirs w) :
    Calls Tryd.prog 26 #[.string s, .int .i64 (k : Int)] w fun e w' => e = .returned (.string (bStr (movedL (lets s) k))) ∧ Below w.heap.size w w' := by
  have HD := hid hd
  have h40 := (cl_facts hcl).1
  have HC := hid (fun w hd => implClosedOk_c s (by unfold maxLen; omega) w hd)
  rw [hcl] at HC
  have i1 : ¬ (k : Int) < 0 := by omega
  have i2 : ¬ (s.size : Int) ≤ (k : Int) := by omega
  clear hd hcl
  go_enter Tryd.func26, Tryd.ntmps26
  go_wp2_with fail
  refine (HC.out _ HD.out).mono ?_
  rintro e w1 ⟨rfl, hb1⟩
  have HB1 := hid hb1
  clear hb1
  have hcv := run_bytes_of_string (P := Tryd.prog) w1 9 22 5 s Tryd.underlying9 Tryd.underlying22 Tryd.underlying5
  have hcap1 := grownCap_ge w1 s.size 0 5
  have hcap2 := grownCap_le_maxLen w1 s.size 0 5 (by unfold maxLen; omega)
  generalize grownCap w1 s.size 0 5 = cap at *
  have HCells : Hid (∀ i (h : i < (lets s).length), (w1.drew.alloc (.cells (bytesRow s cap) 5 ((bytesRow s cap).size, (bytesRow s cap).size + 1))).cell? ⟨w1.heap.size, i, none⟩ = some (.int .u8 ((lets s)[i].toNat : Int))) := hid (fun i h => by
    have h1 : i < s.data.size := by simpa [lets] using h
    have := World.cell?_alloc_mark w1.drew (bytesRow s cap) 5 ((bytesRow s cap).size, (bytesRow s cap).size + 1) i
    have e1 : w1.drew.heap.size = w1.heap.size := rfl
    rw [e1] at this
    rw [this, bytesRow_at s cap i h1]
    simp [lets])
  have HB2 : Hid (Below w.heap.size w (w1.drew.alloc (.cells (bytesRow s cap) 5 ((bytesRow s cap).size, (bytesRow s cap).size + 1)))) := hid (HB1.out.drew.alloc HB1.out.size _)
  have HZ2 : Hid (w1.heap.size < (w1.drew.alloc (.cells (bytesRow s cap) 5 ((bytesRow s cap).size, (bytesRow s cap).size + 1))).heap.size) := hid (by simp)
  generalize (w1.drew.alloc (.cells (bytesRow s cap) 5 ((bytesRow s cap).size, (bytesRow s cap).size + 1))) = W2 at *
  go_wp2_with fail
  clear hcv
  refine (movedRound_c w1.heap.size cap (lets s) s.size k (lets_len s) h40 hk hcap1 hcap2 W2 HZ2.out HCells.out).mono ?_
  rintro e w3 ⟨rfl, hown, hb3⟩
  have HO := hid hown
  have HB3 := hid (HB2.out.trans (hb3.mono HB2.out.size))
  have hlen : (movedL (lets s) k).length = s.size := by rw [moved_len, lets_len]
  have hcv := run_convert_bytes_back (P := Tryd.prog) w3 22 9 5 ⟨W2.heap.size, 0, none⟩ s.size (movedL (lets s) k) Tryd.underlying22 Tryd.underlying5 Tryd.underlying9 (fun j hj => by
    rw [add_at, Nat.zero_add]
    have q := World.ownsRow.cellAt hown j (by omega)
    rw [bc_at _ _ hj] at q
    exact q)
  rw [hlen] at hcv
  clear hown hb3 hlen
  go_wp2_with fail
  go_ret
  exact ⟨rfl, HB3.out⟩
end Go.Proofs.YtmojhdnehmjnmaaDoor
