/- Contracts: SpiralWord of both packages. -/
import Derived.Test.YtbeacmealippmaaDoorSp1
import Derived.Test.YtbeacmealippmaaDoorSpWordP
import Derived.Test.YtbeacmealippmaaDoorBuilder
import Derived.Test.YtbeacmealippmaaDoorShelf
namespace Go.Proofs.YtbeacmealippmaaDoor
open Go.RowKit TW

/-- The word of a spiral, or the empty text. -/
def wordFor (o r : Int) : ByteArray := if spOk o r then strOf (spWord r.toNat o.toNat) else ByteArray.empty

theorem spOk_nat {o r : Int} (h : spOk o r = true) : ∃ n m : Nat, o = n ∧ r = m ∧ 1 ≤ n ∧ n ≤ 9 ∧ m < 2 ^ n := by
  unfold spOk at h
  simp only [Bool.and_eq_true, decide_eq_true_eq] at h
  obtain ⟨⟨h1, h2⟩, h3, h4⟩ := h
  refine ⟨o.toNat, r.toNat, by omega, by omega, by omega, by omega, ?_⟩
  have : ((2 ^ o.toNat : Nat) : Int) = 2 ^ o.toNat := by simp
  omega

/-- The test at place k of both packages' texts. -/
theorem shr_cast (m j : Nat) : ((m : Int) / 2 ^ j).tmod 2 = ((m / 2 ^ j % 2 : Nat) : Int) := by
  have e : (m : Int) / 2 ^ j = ((m / 2 ^ j : Nat) : Int) := by simp
  rw [e]; rfl
theorem turn_spec (m j : Nat) (h : (((m : Int) / 2 ^ j).tmod 2 == 1) = true) : spTurn m (j + 1) = 82 := by
  unfold spTurn
  rw [shr_cast] at h
  simp only [beq_iff_eq] at h
  rw [if_pos]
  simp only [Nat.add_sub_cancel]; omega
theorem turn_spec' (m j : Nat) (h : (((m : Int) / 2 ^ j).tmod 2 == 1) = false) : spTurn m (j + 1) = 76 := by
  unfold spTurn
  rw [shr_cast] at h
  simp only [beq_eq_false_iff_ne] at h
  rw [if_neg]
  simp only [Nat.add_sub_cancel]; omega

theorem str_snoc {l l' : List UInt8} {b : UInt8} (h : l' = l ++ [b]) : strOf l ++ ⟨#[b]⟩ = strOf l' := by
  rw [h, ← strOf_append]; rfl

theorem rep_snoc (l : List UInt8) (i : Nat) : l ++ List.replicate (i + 1) 70 = l ++ List.replicate i 70 ++ [(70 : UInt8)] := by
  rw [List.replicate_succ', List.append_assoc]

set_option maxHeartbeats 1000000 in
theorem specSpiralWord_c (o r : Int) (w : World) :
    Calls Tryd.prog 22 #[.int .i64 o, .int .i64 r] w fun e w' => e = .returned (.string (wordFor o r)) ∧ w = w' := by
  by_cases hok : spOk o r = true
  · obtain ⟨n, m, rfl, rfl, hn, hn9, hm⟩ := spOk_nat hok
    have hres : Hid (wordFor n m = strOf (spWord m n)) := by unfold wordFor; rw [if_pos hok]; rfl
    go_enter Tryd.func22, Tryd.ntmps22
    go_wp2
    go_loop [5, 6] (fun s k => ∃ (t : ByteArray) (j : Nat), s = .string t ∧ t.size ≤ 60 ∧ Hid (t = strOf (spWord m j)) ∧ j ≤ n ∧ k = .int .i64 ((j : Int) + 1)) (fun _ k => 20 - (intOf k).toNat)
    case atStart => exact ⟨ByteArray.empty, 0, rfl, by decide, hid rfl, by omega, rfl⟩
    case round =>
      obtain ⟨t, j, rfl, hts, HT, hj, rfl⟩ := hrel
      by_cases hlt : j < n
      · go_wp2_with (go_at_call 13; refine (specSpiralOk_c _ _ _).mono ?_; rintro e w' ⟨rfl, rfl⟩)
        go_loop [5, 7] (fun s i => ∃ (t' : ByteArray) (i' : Nat), s = .string t' ∧ t'.size ≤ 60 + i' ∧ Hid (t' = strOf (spWord m j ++ List.replicate i' 70)) ∧ i' ≤ j + 1 ∧ i = .int .i64 i') (fun _ i => 20 - (intOf i).toNat)
        case atStart => exact ⟨t, 0, rfl, by omega, hid (by rw [HT.out]; simp), by omega, rfl⟩
        case round =>
          obtain ⟨t', i', rfl, hts', HT', hi', rfl⟩ := hrel
          by_cases hlt' : i' < j + 1
          · have hgrow : Hid (t' ++ ⟨#[70]⟩ = strOf (spWord m j ++ List.replicate (i' + 1) 70)) := by rw [HT'.out]; exact str_snoc (rep_snoc _ _)
            go_wp2
            go_round
            case rel => exact ⟨_, i' + 1, rfl, by rw [ByteArray.size_append']; show t'.size + 1 ≤ _; omega, hgrow, by omega, by go_num⟩
            case measure => simp [intOf]; omega
          · obtain rfl : i' = j + 1 := by omega
            have hsz := hid (show (strOf (spWord m (j + 1))).size ≤ 60 from by rw [strOf_size]; have := spWord_le (r := m) (n := j + 1) (by omega); omega)
            have hR : Hid (spTurn m (j + 1) = 82 → t' ++ ⟨#[82]⟩ = strOf (spWord m (j + 1))) := fun h => by rw [HT'.out]; refine str_snoc ?_; rw [spWord, h, List.append_assoc]
            have hL : Hid (spTurn m (j + 1) = 76 → t' ++ ⟨#[76]⟩ = strOf (spWord m (j + 1))) := fun h => by rw [HT'.out]; refine str_snoc ?_; rw [spWord, h, List.append_assoc]
            go_wp2
            · have hb := hR.out (turn_spec m j ‹_›)
              go_round
              case rel => exact ⟨_, j + 1, rfl, by rw [hb]; exact hsz.out, hid hb, by omega, by go_num⟩
              case measure => simp [intOf]; omega
            · have hb := hL.out (turn_spec' m j ‹_›)
              go_round
              case rel => exact ⟨_, j + 1, rfl, by rw [hb]; exact hsz.out, hid hb, by omega, by go_num⟩
              case measure => simp [intOf]; omega
      · obtain rfl : j = n := by omega
        go_wp2
        go_ret
        exact ⟨ret_str (by rw [HT.out, hres.out]), rfl⟩
  · have hf : spOk o r = false := by simpa using hok
    have hres : Hid (wordFor o r = ByteArray.empty) := by unfold wordFor; rw [hf]; rfl
    clear hok
    go_enter Tryd.func22, Tryd.ntmps22
    go_wp2
    refine wp_loop_rounds 1 ?_; rw [rounds_succ]
    go_wp2_with (go_at_call 13; refine (specSpiralOk_c _ _ _).mono ?_; rintro e w' ⟨rfl, rfl⟩)
    all_goals go_ret
    all_goals exact ⟨ret_str hres.out.symm, rfl⟩
end Go.Proofs.YtbeacmealippmaaDoor
