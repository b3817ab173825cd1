/- Contract: impl.SpiralWord. -/
import Derived.Test.YtbeacmealippmaaDoorSpWord
import Derived.Deep.LoopGhost
namespace Go.Proofs.YtbeacmealippmaaDoor
open Go.RowKit TW

/-- What the loops keep: the builder holds these bytes; what was there has not turned. -/
def BdAt (w : World) (l : List UInt8) (wr : World) : Prop :=
  Lib.IsBuilder 52 5 w.heap.size w.heap.size (Lib.byteCells l) wr ∧ w.heap.size ≤ wr.heap.size ∧ Below w.heap.size w wr

theorem BdAt.start (w : World) : BdAt w [] (w.alloc (.cells #[.pointer none, .slice none 0 0] 52)) :=
  ⟨Lib.fresh_isBuilder _ _ w, by simp, (Below.refl _ _).alloc (Nat.le_refl _) _⟩

/-- WriteByte at this builder. -/
theorem bd_write (w wr : World) (l : List UInt8) (c : UInt8) (n : Int) (hn : n = (c.toNat : Int)) (h : BdAt w l wr) (hl : l.length ≤ 1000000) :
    Calls Tryd.prog 37 #[.pointer (some ⟨w.heap.size, 0, none⟩), .int .u8 n] wr fun e w' => e = .returned .nilIface ∧ BdAt w (l ++ [c]) w' := by
  subst hn
  obtain ⟨h1, h2, h3⟩ := h
  refine (writeByte_c w.heap.size w.heap.size (Lib.byteCells l) c.toNat wr h1 (by rw [Lib.byteCells_length]; omega) h2).mono ?_
  rintro e w' ⟨he, hb, hbel⟩
  refine ⟨he, ?_, Nat.le_trans h2 hbel.size, h3.trans hbel⟩
  rw [Lib.byteCells_append]; exact hb

theorem bd_string (w wr : World) (l : List UInt8) (h : BdAt w l wr) :
    Calls Tryd.prog 38 #[.pointer (some ⟨w.heap.size, 0, none⟩)] wr fun e w' => e = .returned (.string (strOf l)) ∧ Below w.heap.size w w' := by
  obtain ⟨h1, h2, h3⟩ := h
  exact (Tryd.Builder_String_any w.heap.size w.heap.size l wr h1 h2).mono fun e w' ⟨he, hb⟩ => ⟨he, h3.trans hb⟩

theorem turn_bits (m j : Nat) (hm : m < 512) (hj : j < 9) (h : (bits .and .i64 ((m : Int) / 2 ^ j) 1 == 1) = true) : spTurn m (j + 1) = 82 := by
  have all : ∀ m : Nat, m < 512 → ∀ j : Nat, j < 9 → bits .and .i64 ((m : Int) / 2 ^ j) 1 = (m / 2 ^ j % 2 : Nat) := by decide +kernel
  rw [all m hm j hj] at h
  unfold spTurn
  simp only [beq_iff_eq] at h
  rw [if_pos]
  simp only [Nat.add_sub_cancel]; omega
theorem turn_bits' (m j : Nat) (hm : m < 512) (hj : j < 9) (h : (bits .and .i64 ((m : Int) / 2 ^ j) 1 == 1) = false) : spTurn m (j + 1) = 76 := by
  have all : ∀ m : Nat, m < 512 → ∀ j : Nat, j < 9 → bits .and .i64 ((m : Int) / 2 ^ j) 1 = (m / 2 ^ j % 2 : Nat) := by decide +kernel
  rw [all m hm j hj] at h
  unfold spTurn
  simp only [beq_eq_false_iff_ne] at h
  rw [if_neg]
  simp only [Nat.add_sub_cancel]; omega

set_option maxHeartbeats 1000000 in
theorem implSpiralWord_c (o r : Int) (w : World) :
    Calls Tryd.prog 26 #[.int .i64 o, .int .i64 r] w fun e w' => e = .returned (.string (wordFor o r)) ∧ Below w.heap.size w w' := by
  cases hok : spOk o r with
  | false =>
    have hres : Hid (wordFor o r = ByteArray.empty) := by unfold wordFor; rw [hok]; rfl
    go_enter Tryd.func26, Tryd.ntmps26
    go_wp2_with (go_at_call 24; refine (implSpiralOk_c _ _ _).mono ?_; rintro e w' ⟨rfl, rfl⟩)
    go_ret
    exact ⟨ret_str hres.out.symm, Below.refl _ _⟩
  | true =>
    obtain ⟨n, m, rfl, rfl, hn, hn9, hm⟩ := spOk_nat hok
    have hres : Hid (wordFor n m = strOf (spWord m n)) := by unfold wordFor; rw [if_pos hok]; rfl
    have hm5 : m < 512 := Nat.lt_of_lt_of_le hm (Nat.pow_le_pow_right (by omega) hn9)
    have h0 := hid (BdAt.start w)
    go_enter Tryd.func26, Tryd.ntmps26
    go_wp2_with (go_at_call 24; refine (implSpiralOk_c _ _ _).mono ?_; rintro e w' ⟨rfl, rfl⟩)
    clear hm hok
    go_loopg [6] 20 (fun g k wr => ∃ j : Nat, g = 20 - j ∧ j ≤ n ∧ k = .int .i64 ((j : Int) + 1) ∧ BdAt w (spWord m j) wr)
    case atStart => exact ⟨0, rfl, by omega, rfl, h0.out⟩
    case round =>
      obtain ⟨j, hg, hj, rfl, hB⟩ := hrel
      have HG := hid hg; clear hg
      by_cases hlt : j < n
      · have hlen := spWord_le (r := m) (n := j) (by omega)
        have HL := hid hlen; clear hlen
        obtain ⟨wo, rfl⟩ : ∃ wo : World, wo = wr := ⟨_, rfl⟩
        have hd : (j : Int) + 1 ≤ (n : Int) := by omega
        go_wp2_with fail
        go_loopg [17] 20 (fun g2 i wr => ∃ i' : Nat, g2 = 20 - i' ∧ i' ≤ j + 1 ∧ i = .int .i64 i' ∧ BdAt w (spWord m j ++ List.replicate i' 70) wr)
        case atStart => exact ⟨0, rfl, by omega, rfl, by simpa using hB⟩
        case round =>
          obtain ⟨i', hg2, hi', rfl, hB2⟩ := hrel
          have HG2 := hid hg2; clear hg2 hB
          by_cases hlt' : i' < j + 1
          · go_wp2_with (go_at_call 37; refine (bd_write w _ _ 70 _ rfl hB2 (by have := HL.out; simp; omega)).mono ?_; rintro e w' ⟨rfl, hB3⟩)
            go_roundg (20 - (i' + 1))
            case measure => rw [HG2.out]; omega
            case rel => exact ⟨i' + 1, rfl, by omega, by go_num, by rw [rep_snoc]; exact hB3⟩
          · obtain rfl : i' = j + 1 := by omega
            have hR : Hid (spTurn m (j + 1) = 82 → spWord m j ++ List.replicate (j + 1) 70 ++ [82] = spWord m (j + 1)) := fun h => by rw [spWord, h, List.append_assoc]
            have hL : Hid (spTurn m (j + 1) = 76 → spWord m j ++ List.replicate (j + 1) 70 ++ [76] = spWord m (j + 1)) := fun h => by rw [spWord, h, List.append_assoc]
            have hj9 : j < 9 := by omega
            go_wp2_with (go_at_call 37; (first | (with_reducible refine (bd_write w _ _ 82 82 rfl hB2 (by have := HL.out; simp; omega)).mono ?_) | (with_reducible refine (bd_write w _ _ 76 76 rfl hB2 (by have := HL.out; simp; omega)).mono ?_)); rintro e w' ⟨rfl, hB3⟩)
            · have hb := turn_bits m j hm5 hj9 ‹_›
              go_roundg (20 - (j + 1))
              case measure => rw [HG.out]; omega
              case rel => exact ⟨j + 1, rfl, by omega, by go_num, by rw [← hR.out hb]; exact hB3⟩
            · have hb := turn_bits' m j hm5 hj9 ‹_›
              go_roundg (20 - (j + 1))
              case measure => rw [HG.out]; omega
              case rel => exact ⟨j + 1, rfl, by omega, by go_num, by rw [← hL.out hb]; exact hB3⟩
      · obtain rfl : j = n := by omega
        go_wp2_with (go_at_call 38; refine (bd_string w _ _ hB).mono ?_; rintro e w' ⟨rfl, hbel⟩)
        go_ret
        exact ⟨ret_str hres.out.symm, hbel⟩
end Go.Proofs.YtbeacmealippmaaDoor
