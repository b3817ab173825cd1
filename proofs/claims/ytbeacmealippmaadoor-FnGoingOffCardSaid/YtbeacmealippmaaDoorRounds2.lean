/- Contracts: SpiralRounds of both packages. -/
import Derived.Test.YtbeacmealippmaaDoorRounds
import Derived.Test.YtbeacmealippmaaDoorSpWord2
import Derived.Test.YtbeacmealippmaaDoorSpFacts
namespace Go.Proofs.YtbeacmealippmaaDoor
open Go.RowKit TW

/-- After how many times a spiral is closed, or -1; and whether it is. -/
def srI (o r : Int) : Int := if spOk o r then roundsI (wordFor o r).data.toList else -1
def srB (o r : Int) : Bool := if spOk o r then roundsB (wordFor o r).data.toList else false

theorem specSpiralRounds_c (o r : Int) (w : World) :
    Calls Tryd.prog 8 #[.int .i64 o, .int .i64 r] w fun e w' => e = .returned (.tuple #[.int .i64 (srI o r), .bool (srB o r)]) ∧ Below w.heap.size w w' := by
  cases hok : spOk o r with
  | false =>
    have HR : Hid (srI o r = -1 ∧ srB o r = false) := by unfold srI srB; rw [hok]; exact ⟨rfl, rfl⟩
    go_enter Tryd.func8, Tryd.ntmps8
    go_wp2_with (go_at_call 13; refine (specSpiralOk_c _ _ _).mono ?_; rintro e w' ⟨rfl, rfl⟩)
    go_ret2
    exact ⟨ret_ib HR.out.1.symm HR.out.2.symm, Below.refl _ _⟩
  | true =>
    have HR : Hid (srI o r = roundsI (wordFor o r).data.toList ∧ srB o r = roundsB (wordFor o r).data.toList) := by unfold srI srB; rw [hok]; exact ⟨rfl, rfl⟩
    obtain ⟨n, m, rfl, rfl, hn, hn9, hm⟩ := spOk_nat hok
    have HF := hid (spFacts hok)
    clear hm
    go_enter Tryd.func8, Tryd.ntmps8
    go_wp2_with (first
      | (go_at_call 13; refine (specSpiralOk_c _ _ _).mono ?_; rintro e w' ⟨rfl, rfl⟩)
      | (go_at_call 22; refine (specSpiralWord_c _ _ _).mono ?_; rintro e w' ⟨rfl, rfl⟩)
      | (go_at_call 23; refine (roundsOf_c _ (by have := HF.out.le; omega) HF.out.ok _).mono ?_; rintro e w' ⟨rfl, hb⟩))
    go_ret2
    exact ⟨ret_ib HR.out.1.symm HR.out.2.symm, hb⟩

set_option maxHeartbeats 1000000 in
theorem implSpiralRounds_c (o r : Int) (w : World) (hd : Dirs w) :
    Calls Tryd.prog 9 #[.int .i64 o, .int .i64 r] w fun e w' => e = .returned (.tuple #[.int .i64 (srI o r), .bool (srB o r)]) ∧ Below w.heap.size w w' := by
  have HD := hid hd
  clear hd
  cases hok : spOk o r with
  | false =>
    have HR : Hid (srI o r = -1 ∧ srB o r = false) := by unfold srI srB; rw [hok]; exact ⟨rfl, rfl⟩
    go_enter Tryd.func9, Tryd.ntmps9
    go_wp2_with (go_at_call 24; refine (implSpiralOk_c _ _ _).mono ?_; rintro e w' ⟨rfl, rfl⟩)
    go_ret2
    exact ⟨ret_ib HR.out.1.symm HR.out.2.symm, Below.refl _ _⟩
  | true =>
    have HR : Hid (srI o r = roundsI (wordFor o r).data.toList ∧ srB o r = roundsB (wordFor o r).data.toList) := by unfold srI srB; rw [hok]; exact ⟨rfl, rfl⟩
    obtain ⟨n, m, rfl, rfl, hn, hn9, hm⟩ := spOk_nat hok
    have HF := hid (spFacts hok)
    have hlen : (wordFor n m).data.toList.length ≤ 64 := by have := HF.out.le; simp; omega
    have HT := hid (twN_in (wordFor n m).data.toList hlen)
    clear hm hlen
    go_enter Tryd.func9, Tryd.ntmps9
    go_wp2_with (go_at_call 24; refine (implSpiralOk_c _ _ _).mono ?_; rintro e w' ⟨rfl, rfl⟩)
    refine (implSpiralWord_c n m w).mono ?_
    rintro e w1 ⟨rfl, hb1⟩
    have HB1 := hid hb1
    clear hb1
    have hsz : (wordFor n m).size ≤ 54 := HF.out.le
    clear HF hok
    obtain ⟨s, hs⟩ : ∃ s, s = wordFor n m := ⟨_, rfl⟩
    rw [← hs] at HT HR hsz ⊢
    clear hs
    go_wp2_with fail
    refine (walkedAgain_c s w1).mono ?_
    rintro e w2 ⟨rfl, hB, hW, hb2⟩
    have HB := hid hB
    have HW := hid hW
    have HL := hid (HB1.out.trans (hb2.mono HB1.out.size))
    have hw1 : w.heap.size ≤ w1.heap.size := HB1.out.size
    clear hB hW hb2 HB1
    go_wp2_with fail
    go_loopw [7] (fun i wr => ∃ j : Nat, j < 5 ∧ i = .int .i64 ((j : Int) + 1) ∧ Box3 (w1.heap.size + 1) (.int .i64 (twN s.data.toList j).1) (.int .i64 (twN s.data.toList j).2.1) (.int .i64 (twN s.data.toList j).2.2) wr ∧ WBox w1.heap.size s wr ∧ Hid (∀ m, 1 ≤ m → m < j + 1 → isBack (twN s.data.toList m) = false) ∧ Below w.heap.size w wr) (fun i _ => 6 - (intOf i).toNat)
    case atStart => exact ⟨0, by omega, rfl, HB.out, HW.out, fun m h1 h2 => by omega, HL.out⟩
    case round =>
      clear HB HW HL
      obtain ⟨j, hj, rfl, HB, HW, HN, HL⟩ := hrel
      by_cases hlt : j < 4
      · have HI := hid (HT.out j (by omega))
        have HE : Hid (twN s.data.toList (j + 1) = tw (twN s.data.toList j) s.data.toList) := hid rfl
        have HB := hid HB
        have HW := hid HW
        have HL := hid HL
        generalize twN s.data.toList j = u at *
        have hj1 : (j : Int) + 1 ≤ 4 := by omega
        go_wp2_with fail
        refine (again_c (w1.heap.size + 1) w1.heap.size u s wr HB.out HW.out (by omega) (HI.out.mono (by omega)) (by omega) (HD.out.below HL.out)).mono ?_
        rintro e w3 ⟨rfl, hB, hW, hb⟩
        have HL := hid (HL.out.trans (hb w.heap.size (by omega)))
        rw [← HE.out] at hB ⊢
        have HB := hid hB
        have HW := hid hW
        clear hB hW hb
        obtain ⟨v, hv⟩ : ∃ v, v = twN s.data.toList (j + 1) := ⟨_, rfl⟩
        rw [← hv]
        have HV := hid hv
        clear hv
        obtain ⟨x1, y1, l1⟩ := v
        cases hb : isBack (x1, y1, l1) with
        | true =>
          have hxyz := isBack_yes hb
          simp only [Prod.mk.injEq] at hxyz
          obtain ⟨rfl, rfl, rfl⟩ := hxyz
          have HQ := hid (rounds_hit (l := s.data.toList) (n := j + 1) (by omega) (by omega) HN.out (by rw [← HV.out]; exact hb))
          clear hb
          go_wp2_with fail
          go_ret2
          exact ⟨ret_ib (by rw [HR.out.1, HQ.out.1]; omega) (by rw [HR.out.2, HQ.out.2]), HL.out⟩
        | false =>
          have HNo := hid hb
          have HNew : Hid (∀ m, 1 ≤ m → m < j + 1 + 1 → isBack (twN s.data.toList m) = false) := fun m h1 h2 => by
            by_cases e : m = j + 1
            · rw [e, ← HV.out]; exact HNo.out
            · exact HN.out m h1 (by omega)
          clear hb
          go_wp2_with fail
          · exfalso
            have e1 : x1 = 0 := by assumption
            have e2 : y1 = 0 := by assumption
            have e3 : l1 = 0 := by assumption
            have := HNo.out
            rw [e1, e2, e3] at this
            exact absurd this (by decide)
          all_goals
            go_roundw
            case rel => exact ⟨j + 1, by omega, by go_num, HB.out, HW.out, HNew, HL.out⟩
            case measure => simp [intOf]; omega
      · obtain rfl : j = 4 := by omega
        have HQ := hid (rounds_none (l := s.data.toList) HN.out)
        have HL := hid HL
        clear HB HW
        go_wp2_with fail
        go_ret2
        exact ⟨ret_ib (by rw [HR.out.1, HQ.out.1]) (by rw [HR.out.2, HQ.out.2]), HL.out⟩
end Go.Proofs.YtbeacmealippmaaDoor
