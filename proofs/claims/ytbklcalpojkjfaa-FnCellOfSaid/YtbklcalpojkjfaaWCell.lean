/- The walk of FnCellOf. -/
import Derived.Test.YtbklcalpojkjfaaHil4
import Derived.Test.YtbklcalpojkjfaaHil5
import Derived.Test.YtbklcalpojkjfaaWCellP
import Derived.Test.YtbklcalpojkjfaaDrawH
import Derived.Test.YtbklcalpojkjfaaAlive
import Derived.Test.YtbklcalpojkjfaaBits3
namespace Go.Proofs.Ytbklcalpojkjfaa
open Go.RowKit TW

theorem fin_not {p : Prop} [Decidable p] (h : ¬ p) : Ending.returned (.bool (!decide p)) = Ending.returned (.bool true) := by simp [h]
theorem fin_two {p q : Prop} [Decidable p] [Decidable q] (h : ¬ p) (g : ¬ q) : Ending.returned (.bool (!decide p && !decide q)) = Ending.returned (.bool true) := by simp [h, g]

set_option maxRecDepth 100000 in
set_option maxHeartbeats 8000000 in
theorem walk_FnCellOf (a : Option Addr) (len cap : Nat) (zs : List Int) (w : World) (h : IsRow .u8 w a len cap zs) :
    Calls Try.prog 16 #[.slice a len cap] w fun e w' => e = .returned (.bool true) ∧ Below w.heap.size w w' := by
  by_cases hbig : 1048576 < len
  · go_enter Try.func16, Try.ntmps16
    go_wp2
    go_ret
    exact ⟨rfl, Below.refl _ _⟩
  · go_enter Try.func16, Try.ntmps16
    go_wp2_with fail
    refine (drawCellOf_c _ _ _ _ _ h).mono ?_
    rintro e w1 ⟨o, r, rfl, _, _, _, _, hb⟩
    have HB := hid hb
    clear hb h
    cases hok : nuOk o r with
    | false =>
      obtain ⟨e1, e2⟩ := hX_no hok
      go_wp2_with (first
        | (go_at_call 25; refine (specCell_c _ _ _).mono ?_; rintro e w' ⟨rfl, rfl⟩)
        | (go_at_call 26; refine (implCell_c _ _ _).mono ?_; rintro e w' ⟨rfl, rfl⟩)
        | (go_at_call 28; refine (alive_c _).mono ?_; rintro e w' ⟨rfl, rfl⟩))
      go_ret
      exact ⟨rfl, HB.out⟩
    | true =>
      obtain ⟨k, n, rfl, rfl, hk, hn⟩ := nuOk_nat hok
      have f1 := hX_of hk hn
      have f2 := hY_of hk hn
      have hb := hil_lt k hk n hn
      have f4 := hN_of hk hb.1 hb.2
      rw [num_hil k hk n hn] at f4
      have f5 := low_law k hk n hn
      have f6 := next_law k hk n hn
      have f7 := fun hn1 : n + 1 < 4 ^ k => And.intro (hX_of hk hn1) (And.intro (hY_of hk hn1) (nuOk_of hk hn1))
      obtain ⟨x, hx⟩ : ∃ x, x = (hil k n).1 := ⟨_, rfl⟩
      obtain ⟨y, hy⟩ : ∃ y, y = (hil k n).2 := ⟨_, rfl⟩
      rw [← hx, ← hy] at f4 f5 f6 hb
      rw [← hx] at f1
      rw [← hy] at f2
      clear hx hy
      have HF5 := hid f5
      have HF6 := hid f6
      have HF7 := hid f7
      clear f5 f6 f7
      obtain ⟨hq, h32, hp⟩ := pow_q k hk
      have hw : wrap64 (2 ^ k) = ((2 ^ k : Nat) : Int) := by rw [wrap_pow k (by omega)]; simp
      have h24 := two_four k hk
      obtain ⟨T, hT⟩ : ∃ T : Nat, T = 2 ^ k := ⟨_, rfl⟩
      obtain ⟨Q, hQ⟩ : ∃ Q : Nat, Q = 4 ^ k := ⟨_, rfl⟩
      obtain ⟨b1, b2⟩ := hb
      rw [← hT] at h32 hp hw h24 b1 b2
      rw [← hQ] at hq h24 hn
      have HT := hid hT
      have HQ := hid hQ
      clear hT hQ
      have hn1024 : n < 1024 := by omega
      have hx32 : x ≤ 32 := by omega
      have hy32 : y ≤ 32 := by omega
      obtain ⟨S, hS⟩ : ∃ S : Int, S = (T : Int) := ⟨_, rfl⟩
      obtain ⟨M, hM⟩ : ∃ M : Int, M = (Q : Int) := ⟨_, rfl⟩
      rw [← hS] at hw h24
      rw [← hM] at h24
      have hSS : S * S = M := h24
      clear h24
      have HSS := hid hSS
      clear hSS
      have hS1 : 1 ≤ S := by omega
      have hS32 : S ≤ 32 := by omega
      have hxS : (x : Int) < S := by omega
      have hyS : (y : Int) < S := by omega
      have hM1024 : M ≤ 1024 := by omega
      have hnM : (n : Int) < M := by omega
      have HL : Hid (k = 0 ∨ ((2 * (x : Int) < S ∧ 2 * (y : Int) < S) ↔ 4 * (n : Int) < M)) := hid (by
        have h5 := HF5.out
        rw [← HT.out, ← HQ.out] at h5
        rcases h5 with h5 | h5
        · exact .inl h5
        · refine .inr ⟨fun h => ?_, fun h => ?_⟩
          · have := h5.1 ⟨by omega, by omega⟩; omega
          · have := h5.2 (by omega); exact ⟨by omega, by omega⟩)
      have HK0 : Hid (k = 0 → S ≤ 1) := hid (fun h => by rw [hS, HT.out, h]; decide)
      have HM : Hid (M = ((4 ^ k : Nat) : Int)) := hid (by rw [hM, HQ.out])
      have hn4 : n < 4 ^ k := by rw [← HQ.out]; exact hn
      have HN4 := hid hn4
      clear hn4 hn hS hM hp h32 hq b1 b2 HF5 HT HQ
      by_cases hn1 : n + 1 < 4 ^ k
      · obtain ⟨d1, d2, d3⟩ := HF7.out hn1
        have hSS := HSS.out
        have hbn := hil_lt k hk (n + 1) hn1
        have f8 := HF6.out hn1
        have hnM1 : (n : Int) + 1 < M := by have := HM.out; omega
        generalize (hil k (n + 1)).1 = p at *
        generalize (hil k (n + 1)).2 = q at *
        have d1' : hX k ((n : Int) + 1) = (p : Int) := d1
        have d2' : hY k ((n : Int) + 1) = (q : Int) := d2
        have d3' : nuOk k ((n : Int) + 1) = true := d3
        have hp32 : p ≤ 32 := by have := (pow_le32 k hk).2.1; omega
        have hq32 : q ≤ 32 := by have := (pow_le32 k hk).2.1; omega
        unfold NextLaw at f8
        obtain ⟨s1, s2, s3, s4, s5⟩ := f8
        have HS : Hid ((((p : Int) - x) * ((p : Int) - x) + ((q : Int) - y) * ((q : Int) - y) == 1) = true) := by rw [s1]; rfl
        clear d1 d2 d3 hbn s1 hn1 HF6 HF7 HM
        go_upto_region 12 with (first
          | (go_at_call 25; refine (specCell_c _ _ _).mono ?_; rintro e w' ⟨rfl, rfl⟩)
          | (go_at_call 26; refine (implCell_c _ _ _).mono ?_; rintro e w' ⟨rfl, rfl⟩))
        rw [HS.out]
        clear HS s2 s3 s4 s5 hp32 hq32 d1' d2' d3'
        go_upto_region 13 with fail
        rw [hw]
        clear hw
        by_cases hk0 : k = 0
        · have hS0 := HK0.out hk0
          have hSe : S = 1 := by omega
          have h1 := HSS.out
          rw [hSe] at h1
          exfalso
          omega
        · have hl := HL.out.resolve_left hk0
          have HLL := hid hl
          have hkb : ((k : Int) == 0) = false := by rw [beq_eq_false_iff_ne]; omega
          clear hl hk0
          by_cases h1 : 2 * (x : Int) < S
          · by_cases h2 : 2 * (y : Int) < S
            · have h3 : 4 * (n : Int) < M := HLL.out.1 ⟨h1, h2⟩
              go_wp2_with fail
              refine (implNumber_c _ _ _ _).mono ?_
              rintro e w' ⟨rfl, d, rfl⟩
              rw [f4]
              go_wp2_with (go_at_call 28; refine (alive_c _).mono ?_; rintro e w' ⟨rfl, rfl⟩)
              go_ret
              first | exact ⟨rfl, below_drewN HB.out _⟩ | exact ⟨fin_not (by omega), below_drewN HB.out _⟩ | exact ⟨fin_two (by omega) (by omega), below_drewN HB.out _⟩
            · have h3 : ¬ 4 * (n : Int) < M := fun c => h2 (HLL.out.2 c).2
              go_wp2_with fail
              refine (implNumber_c _ _ _ _).mono ?_
              rintro e w' ⟨rfl, d, rfl⟩
              rw [f4]
              go_wp2_with (go_at_call 28; refine (alive_c _).mono ?_; rintro e w' ⟨rfl, rfl⟩)
              go_ret
              first | exact ⟨rfl, below_drewN HB.out _⟩ | exact ⟨fin_not (by omega), below_drewN HB.out _⟩ | exact ⟨fin_two (by omega) (by omega), below_drewN HB.out _⟩
          · have h3 : ¬ 4 * (n : Int) < M := fun c => h1 (HLL.out.2 c).1
            go_wp2_with fail
            refine (implNumber_c _ _ _ _).mono ?_
            rintro e w' ⟨rfl, d, rfl⟩
            rw [f4]
            go_wp2_with (go_at_call 28; refine (alive_c _).mono ?_; rintro e w' ⟨rfl, rfl⟩)
            go_ret
            first | exact ⟨rfl, below_drewN HB.out _⟩ | exact ⟨fin_not (by omega), below_drewN HB.out _⟩ | exact ⟨fin_two (by omega) (by omega), below_drewN HB.out _⟩
      · have d3 := nuOk_end hk hn1
        obtain ⟨d1, d2⟩ := hX_no d3
        have hnM1 : ¬ (n : Int) + 1 < M := by have := HM.out; omega
        have hSS := HSS.out
        clear hn1 HF6 HF7 HM
        go_upto_region 12 with (first
          | (go_at_call 25; refine (specCell_c _ _ _).mono ?_; rintro e w' ⟨rfl, rfl⟩)
          | (go_at_call 26; refine (implCell_c _ _ _).mono ?_; rintro e w' ⟨rfl, rfl⟩))
        generalize (wrap64 (wrap64 (-(x : Int) * -(x : Int)) + wrap64 (-(y : Int) * -(y : Int))) == 1) = bs
        go_upto_region 13 with fail
        rw [hw]
        clear hw
        by_cases hk0 : k = 0
        · have hS0 := HK0.out hk0
          have hSe : S = 1 := by omega
          have hk0' : (k : Int) = 0 := by omega
          have hkb : ((k : Int) == 0) = true := by rw [hk0']; rfl
          rw [hk0'] at f4
          clear hS0 hk0
          go_wp2_with fail
          refine (implNumber_c _ _ _ _).mono ?_
          rintro e w' ⟨rfl, d, rfl⟩
          rw [f4]
          go_wp2_with (go_at_call 28; refine (alive_c _).mono ?_; rintro e w' ⟨rfl, rfl⟩)
          go_ret
          first | exact ⟨rfl, below_drewN HB.out _⟩ | exact ⟨fin_not (by omega), below_drewN HB.out _⟩ | exact ⟨fin_two (by omega) (by omega), below_drewN HB.out _⟩
        · have hl := HL.out.resolve_left hk0
          have HLL := hid hl
          have hkb : ((k : Int) == 0) = false := by rw [beq_eq_false_iff_ne]; omega
          clear hl hk0
          by_cases h1 : 2 * (x : Int) < S
          · by_cases h2 : 2 * (y : Int) < S
            · have h3 : 4 * (n : Int) < M := HLL.out.1 ⟨h1, h2⟩
              go_wp2_with fail
              refine (implNumber_c _ _ _ _).mono ?_
              rintro e w' ⟨rfl, d, rfl⟩
              rw [f4]
              go_wp2_with (go_at_call 28; refine (alive_c _).mono ?_; rintro e w' ⟨rfl, rfl⟩)
              go_ret
              first | exact ⟨rfl, below_drewN HB.out _⟩ | exact ⟨fin_not (by omega), below_drewN HB.out _⟩ | exact ⟨fin_two (by omega) (by omega), below_drewN HB.out _⟩
            · have h3 : ¬ 4 * (n : Int) < M := fun c => h2 (HLL.out.2 c).2
              go_wp2_with fail
              refine (implNumber_c _ _ _ _).mono ?_
              rintro e w' ⟨rfl, d, rfl⟩
              rw [f4]
              go_wp2_with (go_at_call 28; refine (alive_c _).mono ?_; rintro e w' ⟨rfl, rfl⟩)
              go_ret
              first | exact ⟨rfl, below_drewN HB.out _⟩ | exact ⟨fin_not (by omega), below_drewN HB.out _⟩ | exact ⟨fin_two (by omega) (by omega), below_drewN HB.out _⟩
          · have h3 : ¬ 4 * (n : Int) < M := fun c => h1 (HLL.out.2 c).1
            go_wp2_with fail
            refine (implNumber_c _ _ _ _).mono ?_
            rintro e w' ⟨rfl, d, rfl⟩
            rw [f4]
            go_wp2_with (go_at_call 28; refine (alive_c _).mono ?_; rintro e w' ⟨rfl, rfl⟩)
            go_ret
            first | exact ⟨rfl, below_drewN HB.out _⟩ | exact ⟨fin_not (by omega), below_drewN HB.out _⟩ | exact ⟨fin_two (by omega) (by omega), below_drewN HB.out _⟩
end Go.Proofs.Ytbklcalpojkjfaa
