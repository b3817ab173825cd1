/- Contract: CrossingsIn of the program. -/
import Derived.Test.YtkfmppjljdhogaaDoorWkX
import Derived.Test.YtkfmppjljdhogaaDoorSpX
import Derived.Test.YtkfmppjljdhogaaDoorWkI
namespace Go.Proofs.YtkfmppjljdhogaaDoor
open Go.RowKit TW
open Go.Maps (Keyed)

/-- The crossings that are no longer to come, cut to the box. -/
noncomputable def boxC (l : List UInt8) (left : Lit → Bool) (x y : Int) : Int := open Classical in if InBox x y then (if left (klOf x y) then 0 else if crB l x y then 1 else 0) else 0
theorem boxC_step {l : List UInt8} {left : Lit → Bool} {x y : Int} (hb : InBox x y) (hl : left (klOf x y) = true) :
    boxC l (fun z => left z && !z.sameKey (klOf x y)) x y = (if crB l x y then 1 else 0) ∧ boxC l left x y = 0 ∧ ∀ a b, ¬ (a = x ∧ b = y) → boxC l (fun z => left z && !z.sameKey (klOf x y)) a b = boxC l left a b := by
  refine ⟨?_, ?_, fun a b hne => ?_⟩
  · unfold boxC; rw [if_pos hb]; simp [same_kl hb.fit hb.fit]
  · unfold boxC; rw [if_pos hb, if_pos hl]
  · by_cases c : InBox a b
    · unfold boxC; rw [if_pos c, if_pos c]; simp [same_kl hb.fit c.fit, hne]
    · unfold boxC; rw [if_neg c, if_neg c]
theorem crB_in {l : List UInt8} {x y : Int} (h : inL l x y = false) : crB l x y = false := by unfold crB; rw [h]; simp
theorem boxC_start {l : List UInt8} {D : DataW Unit} (h : SqD D (inL l)) (x y : Int) : boxC l (Maps.has D) x y = 0 := by
  by_cases c : InBox x y
  · unfold boxC
    rw [if_pos c]
    cases hh : Maps.has D (klOf x y) with
    | true => rfl
    | false =>
      have hi : inL l x y = false := by
        cases hc : inL l x y with
        | false => rfl
        | true => have := (h.1 x y c.fit).2 hc; rw [hh] at this; cases this
      rw [crB_in hi]; rfl
  · unfold boxC; rw [if_neg c]
theorem boxC_01 (l : List UInt8) (left : Lit → Bool) (x y : Int) : 0 ≤ boxC l left x y ∧ boxC l left x y ≤ 1 := by
  unfold boxC; repeat' split
  all_goals omega
noncomputable def sumC (l : List UInt8) (left : Lit → Bool) : Int := box2 (boxC l left) (-20) 41
theorem sumC_start {l : List UInt8} {D : DataW Unit} (h : SqD D (inL l)) : sumC l (Maps.has D) = 0 := box2_nought _ _ (boxC_start h)
theorem sumC_end {l : List UInt8} {left : Lit → Bool} (h : ∀ kl, left kl = false) : sumC l left = crL l := by
  unfold sumC crL
  exact box2_congr (fun a b h1 h2 h3 h4 => by unfold boxC; rw [if_pos (by unfold InBox; omega), h]; rfl)
theorem sumC_step {l : List UInt8} {left : Lit → Bool} {x y : Int} (hb : InBox x y) (hl : left (klOf x y) = true) : sumC l (fun z => left z && !z.sameKey (klOf x y)) = sumC l left + if crB l x y then 1 else 0 := by
  obtain ⟨h1, h2, h3⟩ := boxC_step (l := l) hb hl
  unfold InBox at hb
  unfold sumC
  rw [box2_upd (f := boxC l left) (p := x) (q := y) (by omega) (by omega) (by omega) (by omega) h3, h1, h2]
  omega
theorem sumC_le (l : List UInt8) (left : Lit → Bool) : 0 ≤ sumC l left ∧ sumC l left ≤ 100000 := by
  have hr : ∀ i : Nat, 0 ≤ boxTo (fun b => boxC l left (-20 + (i : Int)) b) (-20) 41 ∧ boxTo (fun b => boxC l left (-20 + (i : Int)) b) (-20) 41 ≤ 41 := fun i => by
    have := sum_01 (f := fun k => boxC l left (-20 + (i : Int)) (-20 + (k : Int))) (b := 1) (fun k => boxC_01 l left _ _) 41
    unfold boxTo
    simp only
    omega
  have := sum_01 (f := fun i => boxTo (fun b => boxC l left (-20 + (i : Int)) b) (-20) 41) (b := 41) hr 41
  have e : sumC l left = sumTo (fun i => boxTo (fun b => boxC l left (-20 + (i : Int)) b) (-20) 41) 41 := rfl
  rw [e]
  omega
theorem has_in {l : List UInt8} {D : DataW Unit} (h : SqD D (inL l)) {x y : Int} (hf : Fit2 x y) : Maps.has D (klOf x y) = inL l x y := by
  rw [Bool.eq_iff_iff]; exact h.1 x y hf
theorem allB_cr {l : List UInt8} {D : DataW Unit} (h : SqD D (inL l)) {x y : Int} (hb : InBox x y) : crB l x y = (!onL l x y && allB D x y) := by
  unfold InBox at hb
  have f : ∀ a b : Nat, a < 2 → b < 2 → Fit2 (x + (-1 + (a : Int))) (y + (-1 + (b : Int))) := fun a b ha hb' => ⟨⟨by omega, by omega⟩, by omega, by omega⟩
  unfold crB allB
  rw [has_in h (f 0 0 (by omega) (by omega)), has_in h (f 0 1 (by omega) (by omega)), has_in h (f 1 0 (by omega) (by omega)), has_in h (f 1 1 (by omega) (by omega))]
  have e1 : x + (-1 + ((0 : Nat) : Int)) = x - 1 := by omega
  have e2 : y + (-1 + ((0 : Nat) : Int)) = y - 1 := by omega
  have e3 : x + (-1 + ((1 : Nat) : Int)) = x := by omega
  have e4 : y + (-1 + ((1 : Nat) : Int)) = y := by omega
  rw [e1, e2, e3, e4]
  cases onL l x y <;> cases inL l x y <;> cases inL l (x - 1) y <;> cases inL l x (y - 1) <;> cases inL l (x - 1) (y - 1) <;> rfl
theorem been_on (s : ByteArray) (x y : Int) : onL (lets s) x y = true ↔ BeenV (lets s) (s.size + 1) x y := by
  unfold onL BeenV
  rw [List.any_eq_true, lets_len]
  constructor
  · rintro ⟨k, hk, h⟩
    simp at hk h
    exact ⟨k, hk, h⟩
  · rintro ⟨k, hk, h1, h2⟩
    exact ⟨k, by simpa using hk, by simp [h1, h2]⟩
/-- What an entry that comes is. -/
theorem square_is {l : List UInt8} {D : DataW Unit} (h : SqD D (inL l)) {x : Value} {kl : Lit} {d : DataW Unit} (hkey : keyOf Tryd.prog 50 x = some kl) (hat : ∀ zd, D.atKey kl zd = d) :
    ∃ p q, InBox p q ∧ kl = klOf p q ∧ x = .agg #[.int .i64 p, .int .i64 q] := by
  obtain ⟨p, q, hb, rfl⟩ := h.2.1 kl (Maps.has_true_of_atKey hat)
  exact ⟨p, q, hb, rfl, lawPlace.inj hkey (keyPlace hb.fit)⟩

set_option maxRecDepth 100000 in
set_option maxHeartbeats 8000000 in
theorem implCrossingsIn_c (s : ByteArray) (hs : s.size ≤ maxLen) (w : World) (hd : Dirs w) :
    Calls Tryd.prog 19 #[.string s] w fun e w' => e = .returned (.int .i64 (crR (lets s))) ∧ Below w.heap.size w w' := by
  have HD := hid hd
  clear hd
  go_enter Tryd.func19, Tryd.ntmps19
  go_wp2_with fail
  refine (implSimpleOk_c s hs _ HD.out).mono ?_
  rintro e w1 ⟨rfl, hb1⟩
  have HB1 := hid hb1
  clear hb1
  cases hcl : smL (lets s) with
  | false =>
    have HR := hid (crR_no hcl)
    clear hcl
    go_wp2_with fail
    go_ret
    exact ⟨ret_int HR.out.symm, HB1.out⟩
  | true =>
    have HC := hid hcl
    obtain ⟨h40, hall⟩ := cl_facts (smL_cl hcl)
    have HA := hid hall
    clear hcl hall hs
    go_wp2_with fail
    refine (squaresWithin_c s (smL_cl HC.out) _ (HD.out.below HB1.out)).mono ?_
    rintro e w2 ⟨rfl, HM, hb2⟩
    obtain ⟨D, hown, hsq⟩ := HM.out
    have HB2 := hid (HB1.out.trans (hb2.mono HB1.out.size))
    have HSq := hid hsq
    have HM := hid hown
    have HMl := hid hown.lt
    clear hb2 hsq hown
    have hmm := fun w => run_makeMap_hint w Tryd.underlying43 s.size (by omega)
    go_wp2_with fail
    clear hmm
    have HO := hid (World.ownsMap_made (H := Unit) w2 Tryd.prog 50 (unitElem (H := Unit)))
    have HM := hid (HM.out.alloc (.map #[] 0))
    have HB3 := hid (HB2.out.alloc HB2.out.size (.map #[] 0))
    have HZ3 : Hid ((w2.alloc (.map #[] 0)).heap.size = w2.heap.size + 1) := hid (by simp)
    generalize w2.alloc (.map #[] 0) = w3 at *
    refine (placesOf_c s (by omega) HA.out _ (HD.out.below HB3.out)).mono ?_
    rintro e w4 ⟨v, rfl, hp, hb⟩
    obtain ⟨g, cap, rfl, hBg, hg, hcap, hcap2, hcells⟩ := places_cells hp
    have HO := hid (HO.out.kept (World.grownBy_none_of hb) (by simp))
    have HM := hid (HM.out.kept (World.grownBy_none_of hb) (by simp))
    have HB4 := hid (HB3.out.trans (hb.mono HB3.out.size))
    have HZ4 : Hid (w2.heap.size < w4.heap.size ∧ w2.heap.size < g ∧ w1.heap.size < w2.heap.size) := hid (by have := hb.size; have := HZ3.out; have := HMl.out; omega)
    have HCL := hid hcells
    clear hp hb hcells hBg hg HB3 HB2
    obtain ⟨n, hn⟩ : ∃ n : Nat, n = s.size + 1 := ⟨_, rfl⟩
    have HN := hid hn
    rw [← hn] at hcap HCL ⊢
    have hn41 : n ≤ 41 := by omega
    clear hn
    go_wp2_with fail
    go_loopg [22] 2000 (fun gg i wr => ∃ (k : Nat) (D2 : DataW Unit), gg = 2000 - k ∧ k ≤ n ∧ i = .int .i64 k ∧ Hid (wr.ownsMap Tryd.prog 50 (unitElem (H := Unit)) w2.heap.size k D2) ∧ Hid (∀ p q, Fit2 p q → (Maps.has D2 (klOf p q) = true ↔ BeenV (lets s) k p q)) ∧ Hid (w4.grownBy wr (some w2.heap.size)) ∧ Hid (Below w.heap.size w wr))
    case atStart => exact ⟨0, .map [], rfl, Nat.zero_le _, rfl, HO, hid (fun p q _ => by simp [Maps.has, BeenV]), hid (World.grownBy.refl _ _), HB4⟩
    case round =>
      clear HO HB4
      obtain ⟨k, D2, hgg, hk, rfl, HO, HH, HG, HB⟩ := hrel
      have HGG := hid hgg
      clear hgg
      by_cases hlt : k < n
      · obtain ⟨c1, c2⟩ := HCL.out k hlt
        have q1 := HG.out.cell c1 (by intro e; have := Option.some.inj e; have := HZ4.out; simp at *; omega)
        have q2 := HG.out.cell c2 (by intro e; have := Option.some.inj e; have := HZ4.out; simp at *; omega)
        obtain ⟨hx0, hx1⟩ := PX_le (lets s) k
        obtain ⟨hy0, hy1⟩ := PY_le (lets s) k
        have HV := hid (fun p q => BeenV_succ (lets s) k p q)
        have HT := hid (HO.out.tidy lawPlace)
        have hlt' : (k : Int) < (n : Int) := by omega
        have hk0 : (0 : Int) ≤ (k : Int) := Int.natCast_nonneg _
        have hsz := HB.out.size
        clear c1 c2
        generalize PX (lets s) k = x at *
        generalize PY (lets s) k = y at *
        have HF : Hid (Fit2 x y) := hid ⟨⟨by omega, by omega⟩, by omega, by omega⟩
        have hkey := keyPlace HF.out
        go_wp2_with (at_mapUpdate; refine wpList_mapUpdate_own _ rfl _ _ _ 43 rfl 50 51 lawPlace Tryd.underlying43 (unitElem (H := Unit)) w2.heap.size k _ rfl (HO.out.alloc _) (by unfold maxLen; omega) _ _ _ rfl rfl hkey _ [] unitElem_mk ?_; intro w5 hown5 hg5; have HO5 := hid hown5; have HG5 := hid hg5; clear hown5 hg5)
        go_roundg (2000 - (k + 1))
        case measure => rw [HGG.out]; omega
        case rel =>
          refine ⟨k + 1, _, rfl, by omega, by go_num, HO5, hid (fun p q hf => ((keyedSet_put HF.out HT.out HH.out (.agg [])).1 p q hf).trans (HV.out p q).symm), hid ((HG.out.trans (World.grownBy_alloc _ _ _)).trans HG5.out), hid ((HB.out.alloc hsz _).grown HG5.out (by simp; omega) (fun j hj => by cases hj; have := HZ4.out; have := HB1.out.size; omega))⟩
      · have HK : Hid (k = n) := hid (by omega)
        have hlt' : ¬ (k : Int) < (n : Int) := by omega
        have HHn : Hid (∀ p q, Fit2 p q → Maps.has D2 (klOf p q) = onL (lets s) p q) := hid (fun p q hf => by rw [Bool.eq_iff_iff, been_on, ← HN.out, ← HK.out]; exact HH.out p q hf)
        have HMr := hid (HM.out.kept HG.out (by intro e; have := Option.some.inj e; have := HZ4.out; omega))
        have HZr : Hid (w2.heap.size < wr.heap.size) := hid (by have := HG.out.size; have := HZ4.out; omega)
        clear HM HG HH hlt hk
        go_wp2_with (at_range; refine wpList_range_own _ rfl _ 43 rfl 50 51 lawPlace Tryd.underlying43 (unitElem (H := Unit)) w1.heap.size 100000 D rfl HMr.out ?_; intro w5 hrg hg5 hs5)
        have HRG := hid hrg
        have HB5 := hid ((HB.out).grown hg5 HB.out.size (fun k hk => by cases hk))
        have HO := hid (HO.out.kept hg5 (by simp))
        clear hrg hg5 hs5
        have HR0 := hid (sumC_start HSq.out)
        generalize wr.heap.size = R at *
        go_loopg [7] (Maps.size D) (fun gg a wx => ∃ (left : Lit → Bool) (cnt : Nat), gg = cnt ∧ Hid (wx.ranges Tryd.prog 50 (unitElem (H := Unit)) w1.heap.size R 100000 D left cnt) ∧ a = .int .i64 (sumC (lets s) left) ∧ Hid (wx.ownsMap Tryd.prog 50 (unitElem (H := Unit)) w2.heap.size k D2) ∧ Hid (Below w.heap.size w wx))
        case atStart => exact ⟨_, _, rfl, HRG, by rw [HR0.out], HO, HB5⟩
        case round =>
          clear HRG HB5 HO
          obtain ⟨left, cnt, hgg, HRG, rfl, HO, HB⟩ := hrel
          have HGG := hid hgg
          clear hgg
          obtain ⟨b1, b2⟩ := sumC_le (lets s) left
          go_wp2_with (at_next; refine wpList_next_ranges _ rfl _ rfl 50 lawPlace (unitElem (H := Unit)) (fun x : Value => x) (fun _ : Unit => .agg #[]) (fun key kl h => ⟨key, rfl⟩) (fun v y hv => by obtain ⟨rfl, _⟩ := unitElem_inv hv; exact ⟨(), rfl⟩) w1.heap.size R 100000 D left cnt rfl HRG.out ?_ ?_)
          · intro h0 hl0
            have HL := hid (sumC_end (l := lets s) hl0)
            clear hl0 h0
            go_wp2_with fail
            go_ret
            exact ⟨ret_int (by rw [HL.out, crR_yes HC.out]), HB.out⟩
          · intro x kl ya yb w6 cnt6 hkey hlk hv hat hrg6 hlt6 hg6 hs6 hen
            obtain ⟨p, q, hbx, rfl, rfl⟩ := square_is HSq.out hkey hat
            have HS := hid (sumC_step (l := lets s) hbx hlk)
            rw [allB_cr HSq.out hbx] at HS
            have HRG6 := hid hrg6
            have HLT := hid hlt6
            have HB6 := hid (HB.out.grown hg6 HB.out.size (fun j hj => by cases hj; have := HZr.out; have := HZ4.out; have := HB1.out.size; omega))
            have HO := hid (HO.out.kept hg6 (by intro e; have := Option.some.inj e; have := HZr.out; omega))
            have hsz6 := HB6.out.size
            have hk2 := keyPlace hbx.fit
            have HX := hid hbx
            have hb4 : -20 ≤ p ∧ p ≤ 20 ∧ -20 ≤ q ∧ q ≤ 20 := by unfold InBox at hbx; omega
            obtain ⟨p0, p1, q0, q1⟩ := hb4
            have HAT := hid (fun W (ho : World.ownsMap W Tryd.prog 50 (unitElem (H := Unit)) w1.heap.size 100000 D) => allThere_c w1.heap.size 100000 D p q ⟨by omega, by omega⟩ ⟨by omega, by omega⟩ W ho)
            have HOn := hid (HHn.out p q hbx.fit)
            clear hkey hlk hv hat hrg6 hlt6 hg6 hs6 hbx
            generalize onL (lets s) p q = o at *
            generalize allB D p q = z at *
            generalize sumC (lets s) left = S at *
            cases o with
            | true =>
              go_wp2_with (at_lookup; refine wpList_lookup_own_unit _ rfl _ _ 43 rfl 50 51 lawPlace Tryd.underlying43 (zeroU _) w2.heap.size k D2 rfl (HO.out.alloc _) _ _ rfl hk2 ?_; rw [HOn.out])
              go_roundg cnt6
              case measure => rw [HGG.out]; exact HLT.out
              case rel => exact ⟨_, cnt6, rfl, hid ((HRG6.out.alloc _).alloc _), vint (by rw [HS.out]; simp), hid ((HO.out.alloc _).alloc _), hid ((HB6.out.alloc hsz6 _).alloc (by simp; omega) _)⟩
            | false =>
              cases z with
              | true =>
                go_wp2_with (first
              | (at_lookup; refine wpList_lookup_own_unit _ rfl _ _ 43 rfl 50 51 lawPlace Tryd.underlying43 (zeroU _) w2.heap.size k D2 rfl (HO.out.alloc _) _ _ rfl hk2 ?_; rw [HOn.out])
              | (go_at_call 40
                 refine (HAT.out _ ((HRG6.out.alloc _).alloc _).owns).mono ?_
                 rintro e w7 ⟨rfl, hb⟩
                 have HRG7 := hid (((HRG6.out.alloc _).alloc _).kept (World.grownBy_none_of hb) (by simp) (by simp))
                 have HO7 := hid (((HO.out.alloc _).alloc _).kept (World.grownBy_none_of hb) (by simp))
                 have HB7 := hid (((HB6.out.alloc hsz6 _).alloc (by simp; omega) _).trans (hb.mono (by simp; omega)))
                 clear hb))
                go_roundg cnt6
                case measure => rw [HGG.out]; exact HLT.out
                case rel => exact ⟨_, cnt6, rfl, HRG7, vint (by rw [HS.out]; simp), HO7, HB7⟩
              | false =>
                go_wp2_with (first
              | (at_lookup; refine wpList_lookup_own_unit _ rfl _ _ 43 rfl 50 51 lawPlace Tryd.underlying43 (zeroU _) w2.heap.size k D2 rfl (HO.out.alloc _) _ _ rfl hk2 ?_; rw [HOn.out])
              | (go_at_call 40
                 refine (HAT.out _ ((HRG6.out.alloc _).alloc _).owns).mono ?_
                 rintro e w7 ⟨rfl, hb⟩
                 have HRG7 := hid (((HRG6.out.alloc _).alloc _).kept (World.grownBy_none_of hb) (by simp) (by simp))
                 have HO7 := hid (((HO.out.alloc _).alloc _).kept (World.grownBy_none_of hb) (by simp))
                 have HB7 := hid (((HB6.out.alloc hsz6 _).alloc (by simp; omega) _).trans (hb.mono (by simp; omega)))
                 clear hb))
                go_roundg cnt6
                case measure => rw [HGG.out]; exact HLT.out
                case rel => exact ⟨_, cnt6, rfl, HRG7, vint (by rw [HS.out]; simp), HO7, HB7⟩
end Go.Proofs.YtkfmppjljdhogaaDoor
