/- Contracts: AreaOf, WindingOf, WithinOk, BothOf of the program. -/
import Derived.Test.YtkfmppjljdhogaaDoorWkD
import Derived.Test.YtkfmppjljdhogaaDoorWkE
namespace Go.Proofs.YtkfmppjljdhogaaDoor
open Go.RowKit TW

/-- What they come to, for whatever text. -/
def arR (l : List UInt8) : Int := if clL l then arL l else 0
def wdR (l : List UInt8) (x y : Int) : Int := if clL l then wdL l x y else 0
noncomputable def wnR (l : List UInt8) (x y : Int) : Bool := smL l && inL l x y
theorem arR_no {l : List UInt8} (h : clL l = false) : arR l = 0 := by unfold arR; rw [h]; rfl
theorem arR_yes {l : List UInt8} (h : clL l = true) : arR l = arL l := by unfold arR; rw [if_pos h]
theorem wdR_no {l : List UInt8} (h : clL l = false) (x y : Int) : wdR l x y = 0 := by unfold wdR; rw [h]; rfl
theorem wdR_yes {l : List UInt8} (h : clL l = true) (x y : Int) : wdR l x y = wdL l x y := by unfold wdR; rw [if_pos h]
theorem wnR_no {l : List UInt8} (h : smL l = false) (x y : Int) : wnR l x y = false := by unfold wnR; rw [h]; rfl
theorem wnR_yes {l : List UInt8} (h : smL l = true) (x y : Int) : wnR l x y = inL l x y := by unfold wnR; rw [h]; rfl

/-- A closed walk: what its letters are. -/
theorem cl_facts {s : ByteArray} (h : clL (lets s) = true) : s.size ≤ 40 ∧ (lets s).all isStep = true := by
  have h1 := wkL_len (clL_wk h)
  rw [lets_len] at h1
  exact ⟨h1, wk_all (clL_wk h)⟩

theorem arU_succ (us : List Upr) (i : Nat) : arU us (i + 1) = arU us i + (upAt us i).x * (upAt us i).up := rfl
theorem wdU_succ (us : List Upr) (a b : Int) (i : Nat) : wdU us a b (i + 1) = wdU us a b i + if (upAt us i).y = b ∧ a < (upAt us i).x then (upAt us i).up else 0 := rfl
theorem cnU_succ (us : List Upr) (a b : Int) (i : Nat) : cnU us a b (i + 1) = cnU us a b i + if (upAt us i).y = b ∧ a < (upAt us i).x then 1 else 0 := rfl
theorem prod_le {x u : Int} (h1 : -40 ≤ x) (h2 : x ≤ 40) (h3 : -1 ≤ u) (h4 : u ≤ 1) : -40 ≤ x * u ∧ x * u ≤ 40 := by
  have c : u = -1 ∨ u = 0 ∨ u = 1 := by omega
  rcases c with rfl | rfl | rfl <;> omega

set_option maxHeartbeats 2000000 in
theorem implAreaOf_c (s : ByteArray) (hs : s.size ≤ maxLen) (w : World) (hd : Dirs w) :
    Calls Tryd.prog 17 #[.string s] w fun e w' => e = .returned (.tuple #[.int .i64 (arR (lets s)), .bool (clL (lets s))]) ∧ Below w.heap.size w w' := by
  have HD := hid hd
  clear hd
  go_enter Tryd.func17, Tryd.ntmps17
  go_wp2_with fail
  refine (implClosedOk_c s hs _ HD.out).mono ?_
  rintro e w1 ⟨rfl, hb1⟩
  have HB1 := hid hb1
  clear hb1
  cases hcl : clL (lets s) with
  | false =>
    have HR := hid (arR_no hcl)
    have HC := hid hcl
    clear hcl
    go_wp2_with fail
    go_ret2
    exact ⟨by rw [HR.out, HC.out]; rfl, HB1.out⟩
  | true =>
    have HC := hid hcl
    obtain ⟨h40, hall⟩ := cl_facts hcl
    have HA := hid hall
    clear hcl hall
    go_wp2_with fail
    refine (uprightsOf_c s (by omega) HA.out _ (HD.out.below HB1.out)).mono ?_
    rintro e w2 ⟨v, rfl, hU, hb2⟩
    have HU := hid hU
    have HB2 := hid (HB1.out.trans (hb2.mono HB1.out.size))
    obtain ⟨ad, cap, rfl, _, hcap, hview⟩ := hU
    have HV := hid hview
    clear hb2 hview HB1
    have HR : Hid (arU (upL (lets s) s.size) (upL (lets s) s.size).length = arR (lets s)) := hid (by rw [arR_yes HC.out]; have := arU_all (lets s); rw [lets_len] at this; exact this)
    have HBd := hid (fun i (h : i ≤ (upL (lets s) s.size).length) => arU_le (l := lets s) (k := s.size) (by omega) i h)
    have HUp := hid (fun i (h : i < (upL (lets s) s.size).length) => upAt_le (l := lets s) (k := s.size) (i := i) h)
    have HLen := hid (upL_len (lets s) s.size)
    generalize upL (lets s) s.size = us at *
    generalize hn : us.length = n at *
    have HN := hid hn
    clear hn
    go_wp2_with fail
    go_loopg [4, 13] 100 (fun gg a i wr => ∃ k : Nat, gg = 100 - k ∧ k ≤ n ∧ i = .int .i64 k ∧ a = .int .i64 (arU us k) ∧ Below w2.heap.size w2 wr)
    case atStart => exact ⟨0, rfl, Nat.zero_le _, rfl, rfl, Below.refl _ _⟩
    case round =>
      obtain ⟨k, hgg, hk, rfl, rfl, hB⟩ := hrel
      have HGG := hid hgg
      have HB := hid hB
      clear hgg hB
      by_cases hlt : k < n
      · obtain ⟨g, rfl, _, hg1, hcs⟩ := HV.out (by omega)
        obtain ⟨c0, c1, c2⟩ := hcs k hlt
        have q0 := (HB.out.cell (p := ⟨g, k * 3, none⟩) hg1).trans c0
        have q1 := (HB.out.cell (p := ⟨g, k * 3 + 1, none⟩) hg1).trans c1
        have q2 := (HB.out.cell (p := ⟨g, k * 3 + 2, none⟩) hg1).trans c2
        have hsz := HB.out.size
        clear c0 c1 c2 hcs
        obtain ⟨bx1, bx2, by1, by2, bu1, bu2⟩ := HUp.out k hlt
        obtain ⟨ba1, ba2⟩ := HBd.out k (by omega)
        have HS := hid (arU_succ us k)
        have hln := HLen.out
        generalize upAt us k = u at *
        obtain ⟨ux, uy, uu⟩ := u
        simp only at *
        obtain ⟨m1, m2⟩ := prod_le (x := ux) (u := uu) (by omega) (by omega) bu1 bu2
        generalize arU us k = A at *
        have hlt' : (k : Int) < (n : Int) := by omega
        have k0 : (0 : Int) ≤ (k : Int) := Int.natCast_nonneg _
        go_wp2_with fail
        go_roundg (100 - (k + 1))
        case measure => rw [HGG.out]; omega
        case rel => exact ⟨k + 1, rfl, by omega, by go_num, by rw [HS.out], HB.out.alloc hsz _⟩
      · have HK : Hid (k = n) := hid (by omega)
        have hlt' : ¬ (k : Int) < (n : Int) := by omega
        clear hlt hk
        go_wp2_with fail
        go_ret2
        exact ⟨by rw [← HR.out, HC.out, HK.out]; rfl, HB2.out.trans (HB.out.mono HB2.out.size)⟩
theorem inL_end {us : List Upr} {l : List UInt8} {x y : Int} {n : Nat} (h : cnU us x y n = cnL l x y) : (cnU us x y n % 2 == 1) = inL l x y := by
  unfold inL; rw [h, Bool.eq_iff_iff]; simp

theorem withoutSign_c (n : Int) (h1 : -1000000 ≤ n) (h2 : n ≤ 1000000) (w : World) :
    Calls Tryd.prog 30 #[.int .i64 n] w fun e w' => e = .returned (.int .i64 (absI n)) ∧ w = w' := by
  by_cases h : n < -n
  · have HE : Hid (absI n = -n) := hid (by unfold absI; omega)
    go_enter Tryd.func30, Tryd.ntmps30
    go_wp2
    go_ret
    exact ⟨ret_int HE.out.symm, rfl⟩
  · have HE : Hid (absI n = n) := hid (by unfold absI; omega)
    go_enter Tryd.func30, Tryd.ntmps30
    go_wp2
    go_ret
    exact ⟨ret_int HE.out.symm, rfl⟩
end Go.Proofs.YtkfmppjljdhogaaDoor
