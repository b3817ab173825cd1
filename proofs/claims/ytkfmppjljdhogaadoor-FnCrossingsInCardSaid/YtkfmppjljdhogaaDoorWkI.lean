/- Contracts: AllWindings and MostWinding of the program. -/
import Derived.Test.YtkfmppjljdhogaaDoorWkH
import Derived.Test.YtkfmppjljdhogaaDoorSpE
import Derived.Maps.RangeWalk
namespace Go.Proofs.YtkfmppjljdhogaaDoor
open Go.RowKit TW
open Go.Maps (Keyed)

theorem same_kl {x y a b : Int} (h : Fit2 x y) (g : Fit2 a b) : (klOf a b).sameKey (klOf x y) = decide (a = x ∧ b = y) := by
  by_cases c : a = x ∧ b = y
  · obtain ⟨rfl, rfl⟩ := c
    simp [klOf, Lit.sameKey]
  · rw [Maps.sameKey_ne (fun e => c (klOf_inj g h e))]
    simp [c]
/-- The windings that are no longer to come. -/
def doneW (l : List UInt8) (left : Lit → Bool) (x y : Int) : Int := if left (klOf x y) then 0 else wdL l x y
theorem doneW_step {l : List UInt8} {left : Lit → Bool} {x y : Int} (hb : InBox x y) (hl : left (klOf x y) = true) :
    doneW l (fun z => left z && !z.sameKey (klOf x y)) x y = wdL l x y ∧ doneW l left x y = 0 ∧ ∀ a b, InBox a b → ¬ (a = x ∧ b = y) → doneW l (fun z => left z && !z.sameKey (klOf x y)) a b = doneW l left a b := by
  unfold doneW
  refine ⟨?_, by rw [if_pos hl], fun a b hab hne => ?_⟩
  · simp [same_kl hb.fit hb.fit]
  · simp [same_kl hb.fit hab.fit, hne]
/-- The same, cut to the box. -/
noncomputable def boxW (l : List UInt8) (left : Lit → Bool) (x y : Int) : Int := open Classical in if InBox x y then doneW l left x y else 0
theorem boxW_in {l : List UInt8} {left : Lit → Bool} {x y : Int} (h : InBox x y) : boxW l left x y = doneW l left x y := by unfold boxW; rw [if_pos h]
theorem boxW_out {l : List UInt8} {left : Lit → Bool} {x y : Int} (h : ¬ InBox x y) : boxW l left x y = 0 := by unfold boxW; rw [if_neg h]
theorem boxW_step {l : List UInt8} {left : Lit → Bool} {x y : Int} (hb : InBox x y) (hl : left (klOf x y) = true) :
    boxW l (fun z => left z && !z.sameKey (klOf x y)) x y = wdL l x y ∧ boxW l left x y = 0 ∧ ∀ a b, ¬ (a = x ∧ b = y) → boxW l (fun z => left z && !z.sameKey (klOf x y)) a b = boxW l left a b := by
  obtain ⟨h1, h2, h3⟩ := doneW_step (l := l) hb hl
  refine ⟨by rw [boxW_in hb, h1], by rw [boxW_in hb, h2], fun a b hne => ?_⟩
  by_cases c : InBox a b
  · rw [boxW_in c, boxW_in c, h3 a b c hne]
  · rw [boxW_out c, boxW_out c]
theorem boxW_start {l : List UInt8} {D : DataW Unit} (h : WindD D (wdL l)) (x y : Int) : boxW l (Maps.has D) x y = 0 := by
  by_cases c : InBox x y
  · rw [boxW_in c]
    unfold doneW
    cases hh : Maps.has D (klOf x y) with
    | true => rfl
    | false =>
      have h1 := h.1 x y c.fit
      rw [Maps.atKey_of_not_has hh] at h1
      injection h1 with h1
      injection h1 with _ h1
      simpa using h1.symm
  · exact boxW_out c
theorem boxW_end {l : List UInt8} (hc : clL l = true) {left : Lit → Bool} (h : ∀ kl, left kl = false) (x y : Int) : boxW l left x y = wdL l x y := by
  by_cases c : InBox x y
  · rw [boxW_in c]; unfold doneW; rw [h]; rfl
  · rw [boxW_out c, wd_box hc x y (fun d => c (by unfold InBox; omega))]
theorem boxW_le {l : List UInt8} (hc : clL l = true) (left : Lit → Bool) (x y : Int) : -40 ≤ boxW l left x y ∧ boxW l left x y ≤ 40 := by
  have := wdR_le l x y
  rw [wdR_yes hc] at this
  by_cases c : InBox x y
  · rw [boxW_in c]; unfold doneW; split <;> omega
  · rw [boxW_out c]; omega
/-- All of them together; the most of them. -/
noncomputable def sumW (l : List UInt8) (left : Lit → Bool) : Int := box2 (boxW l left) (-20) 41
noncomputable def mostW (l : List UInt8) (left : Lit → Bool) : Int := mostOf (boxW l left)
theorem sumW_start {l : List UInt8} {D : DataW Unit} (h : WindD D (wdL l)) : sumW l (Maps.has D) = 0 := box2_nought _ _ (boxW_start h)
theorem mostW_start {l : List UInt8} {D : DataW Unit} (h : WindD D (wdL l)) : mostW l (Maps.has D) = 0 := mostOf_nought (boxW_start h)
theorem sumW_end {l : List UInt8} (hc : clL l = true) {left : Lit → Bool} (h : ∀ kl, left kl = false) : sumW l left = awR l := by
  unfold sumW awR
  exact box2_congr (fun a b _ _ _ _ => by rw [boxW_end hc h, wdR_yes hc])
theorem mostW_end {l : List UInt8} (hc : clL l = true) {left : Lit → Bool} (h : ∀ kl, left kl = false) : mostW l left = moR l := by
  unfold mostW moR
  rw [if_pos hc]
  exact mostOf_congr (boxW_end hc h)
theorem sumW_step {l : List UInt8} {left : Lit → Bool} {x y : Int} (hb : InBox x y) (hl : left (klOf x y) = true) : sumW l (fun z => left z && !z.sameKey (klOf x y)) = sumW l left + wdL l x y := by
  obtain ⟨h1, h2, h3⟩ := boxW_step (l := l) hb hl
  unfold InBox at hb
  unfold sumW
  rw [box2_upd (f := boxW l left) (p := x) (q := y) (by omega) (by omega) (by omega) (by omega) h3, h1, h2]
  omega
theorem mostW_step {l : List UInt8} {left : Lit → Bool} {x y : Int} (hb : InBox x y) (hl : left (klOf x y) = true) : mostW l (fun z => left z && !z.sameKey (klOf x y)) = max (mostW l left) (absI (wdL l x y)) := by
  obtain ⟨h1, h2, h3⟩ := boxW_step (l := l) hb hl
  unfold InBox at hb
  unfold mostW
  rw [mostOf_upd (f := boxW l left) (p := x) (q := y) (by omega) h2 h3, h1]
theorem sumW_le {l : List UInt8} (hc : clL l = true) (left : Lit → Bool) : -100000 ≤ sumW l left ∧ sumW l left ≤ 100000 := by
  have hr : ∀ i : Nat, -1640 ≤ boxTo (fun b => boxW l left (-20 + (i : Int)) b) (-20) 41 ∧ boxTo (fun b => boxW l left (-20 + (i : Int)) b) (-20) 41 ≤ 1640 := fun i => by
    have := sum_le (f := fun k => boxW l left (-20 + (i : Int)) (-20 + (k : Int))) (b := 40) (fun k => boxW_le hc left _ _) 41
    unfold boxTo
    simp only
    omega
  have := sum_le (f := fun i => boxTo (fun b => boxW l left (-20 + (i : Int)) b) (-20) 41) (b := 1640) hr 41
  have e : sumW l left = sumTo (fun i => boxTo (fun b => boxW l left (-20 + (i : Int)) b) (-20) 41) 41 := rfl
  rw [e]
  omega
theorem mostW_le {l : List UInt8} (hc : clL l = true) (left : Lit → Bool) : 0 ≤ mostW l left ∧ mostW l left ≤ 40 := by
  refine ⟨mostOf_nonneg _, ?_⟩
  unfold mostW
  rcases mostOf_hit (boxW l left) with e | ⟨a, b, _, e⟩
  · rw [e]; omega
  · rw [e]
    have := boxW_le hc left a b
    unfold absI
    omega

/-- What an entry that comes is. -/
theorem entry_is {l : List UInt8} {D : DataW Unit} (h : WindD D (wdL l)) {x : Value} {c : Int} {kl : Lit} {y : DataW Unit × List MemPlace} (hkey : keyOf Tryd.prog 38 x = some kl) (hv : plainElem Tryd.prog 3 (.int .i64 c) = some y) (hat : ∀ zd, D.atKey kl zd = y.1) :
    ∃ p q, InBox p q ∧ kl = klOf p q ∧ x = .agg #[.int .i64 p, .int .i64 q] ∧ c = wdL l p q := by
  obtain ⟨p, q, hb, rfl⟩ := h.2 kl (Maps.has_true_of_atKey hat)
  refine ⟨p, q, hb, rfl, lawPair.inj hkey (keyPair hb.fit), ?_⟩
  obtain ⟨c', e, hy, _⟩ := plainElem_int_inv Tryd.underlying3 hv
  injection e with _ e
  subst e
  have h1 := hat (.lit (.int .i64 0))
  rw [h.1 p q hb.fit, hy] at h1
  injection h1 with h1
  injection h1 with _ h1
  exact h1.symm

set_option maxHeartbeats 4000000 in
theorem implAllWindings_c (s : ByteArray) (hs : s.size ≤ maxLen) (w : World) (hd : Dirs w) :
    Calls Tryd.prog 22 #[.string s] w fun e w' => e = .returned (.tuple #[.int .i64 (awR (lets s)), .bool (clL (lets s))]) ∧ Below w.heap.size w w' := by
  have HD := hid hd
  clear hd
  go_enter Tryd.func22, Tryd.ntmps22
  go_wp2_with fail
  refine (implClosedOk_c s hs _ HD.out).mono ?_
  rintro e w1 ⟨rfl, hb1⟩
  have HB1 := hid hb1
  clear hb1
  cases hcl : clL (lets s) with
  | false =>
    have HR : Hid (awR (lets s) = 0) := hid (box2_nought _ _ (fun a b => wdR_no hcl a b))
    have HC := hid hcl
    clear hcl
    go_wp2_with fail
    go_ret2
    exact ⟨by rw [HR.out, HC.out]; rfl, HB1.out⟩
  | true =>
    have HC := hid hcl
    clear hcl
    go_wp2_with fail
    refine (windingsOf_c s HC.out _ (HD.out.below HB1.out)).mono ?_
    rintro e w2 ⟨rfl, HM, hb2⟩
    have HB2 := hid (HB1.out.trans (hb2.mono HB1.out.size))
    have hsz := HB1.out.size
    have hlt : w1.heap.size < w2.heap.size := by obtain ⟨D, h1, _⟩ := HM.out; exact h1.lt
    obtain ⟨D, hown, hwd⟩ := HM.out
    have HW := hid hwd
    clear hb2 HM hwd
    go_wp2_with (at_range; refine wpList_range_own _ rfl _ 36 rfl 38 3 lawPair Tryd.underlying36 (plainElem Tryd.prog 3) w1.heap.size 100000 D rfl hown ?_; intro w3 hrg hg3 hs3)
    go_frame
    have HRG := hid hrg
    have HB3 := hid ((HB2.out).grown hg3 HB2.out.size (fun k hk => by cases hk))
    clear hrg hg3 hown hs3
    have HR0 := hid (sumW_start HW.out)
    go_loopg [4] (Maps.size D) (fun gg a wr => ∃ (left : Lit → Bool) (cnt : Nat), gg = cnt ∧ Hid (wr.ranges Tryd.prog 38 (plainElem Tryd.prog 3) w1.heap.size w2.heap.size 100000 D left cnt) ∧ a = .int .i64 (sumW (lets s) left) ∧ Hid (Below w.heap.size w wr))
    case atStart => exact ⟨_, _, rfl, HRG, by rw [HR0.out], HB3⟩
    case round =>
      clear HRG HB3
      obtain ⟨left, cnt, hgg, HRG, rfl, HB⟩ := hrel
      have HGG := hid hgg
      clear hgg
      obtain ⟨b1, b2⟩ := sumW_le HC.out left
      go_wp2_with (at_next; refine wpList_next_ranges _ rfl _ rfl 38 lawPair (plainElem Tryd.prog 3) (fun x : Value => x) (fun c : Int => .int .i64 c) (fun key kl h => ⟨key, rfl⟩) (fun v y hv => by obtain ⟨c, rfl, _⟩ := plainElem_int_inv Tryd.underlying3 hv; exact ⟨c, rfl⟩) w1.heap.size w2.heap.size 100000 D left cnt rfl HRG.out ?_ ?_)
      · intro h0 hl0
        have HL := hid (sumW_end HC.out hl0)
        clear hl0 h0
        go_wp2_with fail
        go_ret2
        exact ⟨by rw [HC.out, ← HL.out]; rfl, HB.out⟩
      · intro x c kl ya yb w5 cnt5 hkey hlk hv hat hrg5 hlt5 hg5 hs5 hen
        obtain ⟨p, q, hbx, rfl, rfl, rfl⟩ := entry_is HW.out hkey hv hat
        have HS := hid (sumW_step (l := lets s) hbx hlk)
        have HRG5 := hid hrg5
        have HLT := hid hlt5
        have HB5 := hid (HB.out.grown hg5 HB.out.size (fun k hk => by cases hk; have := HB2.out.size; omega))
        obtain ⟨d1, d2⟩ := wdR_le (lets s) p q
        rw [wdR_yes HC.out] at d1 d2
        clear hkey hlk hv hat hrg5 hlt5 hg5 hs5
        generalize wdL (lets s) p q = c at *
        generalize sumW (lets s) left = S at *
        go_wp2_with fail
        go_roundg cnt5
        case measure => rw [HGG.out]; exact HLT.out
        case rel => exact ⟨_, cnt5, rfl, HRG5, vint (by rw [HS.out]), HB5⟩

set_option maxHeartbeats 4000000 in
theorem implMostWinding_c (s : ByteArray) (hs : s.size ≤ maxLen) (w : World) (hd : Dirs w) :
    Calls Tryd.prog 10 #[.string s] w fun e w' => e = .returned (.int .i64 (moR (lets s))) ∧ Below w.heap.size w w' := by
  have HD := hid hd
  clear hd
  go_enter Tryd.func10, Tryd.ntmps10
  go_wp2_with fail
  refine (implClosedOk_c s hs _ HD.out).mono ?_
  rintro e w1 ⟨rfl, hb1⟩
  have HB1 := hid hb1
  clear hb1
  cases hcl : clL (lets s) with
  | false =>
    have HR := hid (moR_no hcl)
    clear hcl
    go_wp2_with fail
    go_ret
    exact ⟨ret_int HR.out.symm, HB1.out⟩
  | true =>
    have HC := hid hcl
    clear hcl
    go_wp2_with fail
    refine (windingsOf_c s HC.out _ (HD.out.below HB1.out)).mono ?_
    rintro e w2 ⟨rfl, HM, hb2⟩
    have HB2 := hid (HB1.out.trans (hb2.mono HB1.out.size))
    have hsz := HB1.out.size
    have hlt : w1.heap.size < w2.heap.size := by obtain ⟨D, h1, _⟩ := HM.out; exact h1.lt
    obtain ⟨D, hown, hwd⟩ := HM.out
    have HW := hid hwd
    clear hb2 HM hwd
    go_wp2_with (at_range; refine wpList_range_own _ rfl _ 36 rfl 38 3 lawPair Tryd.underlying36 (plainElem Tryd.prog 3) w1.heap.size 100000 D rfl hown ?_; intro w3 hrg hg3 hs3)
    go_frame
    have HRG := hid hrg
    have HB3 := hid ((HB2.out).grown hg3 HB2.out.size (fun k hk => by cases hk))
    clear hrg hg3 hown hs3
    have HR0 := hid (mostW_start HW.out)
    go_loopg [3] (Maps.size D) (fun gg a wr => ∃ (left : Lit → Bool) (cnt : Nat), gg = cnt ∧ Hid (wr.ranges Tryd.prog 38 (plainElem Tryd.prog 3) w1.heap.size w2.heap.size 100000 D left cnt) ∧ a = .int .i64 (mostW (lets s) left) ∧ Hid (Below w.heap.size w wr))
    case atStart => exact ⟨_, _, rfl, HRG, by rw [HR0.out], HB3⟩
    case round =>
      clear HRG HB3
      obtain ⟨left, cnt, hgg, HRG, rfl, HB⟩ := hrel
      have HGG := hid hgg
      clear hgg
      obtain ⟨b1, b2⟩ := mostW_le HC.out left
      go_wp2_with (at_next; refine wpList_next_ranges _ rfl _ rfl 38 lawPair (plainElem Tryd.prog 3) (fun x : Value => x) (fun c : Int => .int .i64 c) (fun key kl h => ⟨key, rfl⟩) (fun v y hv => by obtain ⟨c, rfl, _⟩ := plainElem_int_inv Tryd.underlying3 hv; exact ⟨c, rfl⟩) w1.heap.size w2.heap.size 100000 D left cnt rfl HRG.out ?_ ?_)
      · intro h0 hl0
        have HL := hid (mostW_end HC.out hl0)
        clear hl0 h0
        go_wp2_with fail
        go_ret
        exact ⟨ret_int (by rw [← HL.out]), HB.out⟩
      · intro x c kl ya yb w5 cnt5 hkey hlk hv hat hrg5 hlt5 hg5 hs5 hen
        obtain ⟨p, q, hbx, rfl, rfl, rfl⟩ := entry_is HW.out hkey hv hat
        have HS := hid (mostW_step (l := lets s) hbx hlk)
        have HRG5 := hid hrg5
        have HLT := hid hlt5
        have HB5 := hid (HB.out.grown hg5 HB.out.size (fun k hk => by cases hk; have := HB2.out.size; omega))
        obtain ⟨d1, d2⟩ := wdR_le (lets s) p q
        rw [wdR_yes HC.out] at d1 d2
        clear hkey hlk hv hat hrg5 hlt5 hg5 hs5
        generalize wdL (lets s) p q = c at *
        generalize mostW (lets s) left = S at *
        have HWS := hid (fun w => withoutSign_c c (by omega) (by omega) w)
        generalize absI c = z at *
        by_cases c1 : S < z
        · have HS : Hid (mostW (lets s) (fun z => left z && !z.sameKey (klOf p q)) = z) := hid (by rw [HS.out]; omega)
          go_wp2_with fail
          refine (HWS.out _).mono ?_
          rintro e w6 ⟨rfl, rfl⟩
          go_wp2_with fail
          go_roundg cnt5
          case measure => rw [HGG.out]; exact HLT.out
          case rel => exact ⟨_, cnt5, rfl, HRG5, vint (by rw [HS.out]), HB5⟩
        · have HS : Hid (mostW (lets s) (fun z => left z && !z.sameKey (klOf p q)) = S) := hid (by rw [HS.out]; omega)
          go_wp2_with fail
          refine (HWS.out _).mono ?_
          rintro e w6 ⟨rfl, rfl⟩
          go_wp2_with fail
          go_roundg cnt5
          case measure => rw [HGG.out]; exact HLT.out
          case rel => exact ⟨_, cnt5, rfl, HRG5, vint (by rw [HS.out]), HB5⟩
end Go.Proofs.YtkfmppjljdhogaaDoor
