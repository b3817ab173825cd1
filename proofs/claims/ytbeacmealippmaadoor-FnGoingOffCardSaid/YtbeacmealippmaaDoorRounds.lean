/- Contracts: walkedAgain, its closure, RoundsOf. -/
import Derived.Test.YtbeacmealippmaaDoorTurtle4
import Derived.Test.YtbeacmealippmaaDoorSWord
namespace Go.Proofs.YtbeacmealippmaaDoor
open Go.RowKit

/-- A word walked so many times. -/
def twN (l : List UInt8) : Nat → Int × Int × Int
  | 0 => (0, 0, 0)
  | n + 1 => tw (twN l n) l
theorem twN_in (l : List UInt8) (h : l.length ≤ 64) : ∀ n : Nat, n ≤ 4 → TIn (64 * n) (twN l n)
  | 0, _ => by unfold TIn twN; decide
  | n + 1, hn => tw_in (twN_in l h n (by omega)) l (by omega)
theorem TIn.mono {n m : Int} {t : Int × Int × Int} (h : TIn n t) (hm : n ≤ m) : TIn m t := by unfold TIn at *; omega

/-- A word in a box. -/
def WBox (B : Nat) (s : ByteArray) (wr : World) : Prop := wr.cell? ⟨B, 0, none⟩ = some (.string s)
theorem WBox.lt {B : Nat} {s : ByteArray} {wr : World} (h : WBox B s wr) : B < wr.heap.size := World.block_lt_of_cell? wr _ h
theorem WBox.behind {B : Nat} {s : ByteArray} {wr w1 : World} (h : WBox B s wr) (hb : Below wr.heap.size wr w1) : WBox B s w1 := (hb.cell (p := ⟨B, 0, none⟩) h.lt).trans h

theorem walkedAgain_c (s : ByteArray) (w : World) :
    Calls Tryd.prog 25 #[.string s] w fun e w' =>
      e = .returned (.func (.func 35) #[] #[.pointer (some ⟨w.heap.size + 1, 0, none⟩), .pointer (some ⟨w.heap.size, 0, none⟩)]) ∧
      Box3 (w.heap.size + 1) (.int .i64 0) (.int .i64 0) (.int .i64 0) w' ∧ WBox w.heap.size s w' ∧ Below w.heap.size w w' := by
  have hmf : ∀ (fn : Fn) (first cap : Array Value) (w : World), (Instr.makeFunc fn first cap).run Tryd.prog w = .ok (.func fn first cap) w := fun _ _ _ _ => rfl
  go_enter Tryd.func25, Tryd.ntmps25
  go_wp2_with fail
  go_ret
  refine ⟨rfl, ?_, ?_, by (repeat (first | exact Below.refl _ _ | refine Below.alloc ?_ (by simp <;> omega) _ | refine Below.setCell ?_ (by simp <;> omega) _ | refine Below.drew ?_ | refine below_drewN ?_ _))⟩
  · refine ⟨?_, ?_, ?_, ?_, ?_, ?_, ?_⟩ <;> simp
  · unfold WBox; simp

set_option maxHeartbeats 400000 in
theorem again_c (tb wb : Nat) (u : Int × Int × Int) (s : ByteArray) (w : World) (hB : Box3 tb (.int .i64 u.1) (.int .i64 u.2.1) (.int .i64 u.2.2) w) (hW : WBox wb s w) (hne : wb ≠ tb)
    (hu : TIn 10000 u) (hs : s.size ≤ 300) (hd : Dirs w) :
    Calls Tryd.prog 35 #[.pointer (some ⟨tb, 0, none⟩), .pointer (some ⟨wb, 0, none⟩)] w fun e w' =>
      e = .returned (TV (tw u s.data.toList)) ∧ Box3 tb (.int .i64 (tw u s.data.toList).1) (.int .i64 (tw u s.data.toList).2.1) (.int .i64 (tw u s.data.toList).2.2) w' ∧ WBox wb s w' ∧ ∀ B, B ≤ tb → Below B w w' := by
  have HB := hid hB
  have HW := hid hW
  have HU := hid hu
  have HD := hid hd
  obtain ⟨c0, c1, c2, f0, f1, f2, hz⟩ := hB
  have hwz := hW.lt
  unfold WBox at hW
  clear hu hd
  obtain ⟨x, y, l⟩ := u
  simp only at c0 c1 c2
  go_enter Tryd.func35, Tryd.ntmps35
  go_wp2_with fail
  refine (walked_c (x, y, l) s HU.out hs _ (HD.out.below ((Below.refl _ _).alloc (Nat.le_refl _) _))).mono ?_
  rintro e w1 ⟨rfl, hb1⟩
  have hA : Below w.heap.size w (w.alloc (.cells #[.int .i64 0, .int .i64 0, .int .i64 0] 42)) := (Below.refl _ _).alloc (Nat.le_refl _) _
  have H1 := hid ((HB.out.behind hA).behind hb1)
  have H2 := hid ((HW.out.behind hA).behind hb1)
  have H3 := hid (hA.trans (hb1.mono (by simp)))
  have H4 : Hid (Box3 w.heap.size (.int .i64 0) (.int .i64 0) (.int .i64 0) w1) := Box3.behind (wr := w.alloc (.cells #[.int .i64 0, .int .i64 0, .int .i64 0] 42)) (by refine ⟨?_, ?_, ?_, ?_, ?_, ?_, ?_⟩ <;> simp) hb1
  clear hb1 hA c0 c1 c2 f0 f1 f2 hW
  obtain ⟨x1, hx1⟩ : ∃ u, u = tw (x, y, l) s.data.toList := ⟨_, rfl⟩
  rw [← hx1]
  have HX := hid hx1
  clear hx1
  obtain ⟨x1, y1, l1⟩ := x1
  obtain ⟨c0, c1, c2, f0, f1, f2, hz1⟩ := H1.out
  obtain ⟨d0, d1, d2, g0, g1, g2, hz2⟩ := H4.out
  have hne1 : w.heap.size ≠ tb := Nat.ne_of_gt hz
  have hne2 : tb ≠ w.heap.size := Nat.ne_of_lt hz
  go_wp2_with fail
  refine bodyPost_ret (v := TurtleV x1 y1 l1) ?_ rfl ⟨by rw [← HX.out], ?_, ?_, ?_⟩
  · simp [results, Tryd.results35, go_sem, d0, d1, d2, hz2, hne1, hne2]
  · rw [← HX.out]
    exact (((H1.out.set _ _ _).put (by simpa using hne1) _).put (by simpa using hne1) _).put (by simpa using hne1) _
  · have q := H2.out
    unfold WBox at q ⊢
    rw [World.cell?_setCell_other _ _ _ _ (by simp <;> omega), World.cell?_setCell_other _ _ _ _ (by simp <;> omega), World.cell?_setCell_other _ _ _ _ (by simp <;> omega), World.cell?_setCell_other _ _ _ _ (by simp <;> omega), World.cell?_setCell_other _ _ _ _ (by simp <;> omega), World.cell?_setCell_other _ _ _ _ (by simp <;> omega)]
    exact q
  · intro B hB
    have hb : Below B w w1 := H3.out.mono (by omega)
    exact (((((hb.setCell (by simpa using hB) _).setCell (by simpa using hB) _).setCell (by simpa using hB) _).setCell (by simp <;> omega) _).setCell (by simp <;> omega) _).setCell (by simp <;> omega) _

/-- Is the turtle back where it began? -/
def isBack (u : Int × Int × Int) : Bool := decide (u = (0, 0, 0))
/-- After how many times it is back first, at most 4; 5 if it is not. -/
def firstBack (l : List UInt8) : Nat := if isBack (twN l 1) then 1 else if isBack (twN l 2) then 2 else if isBack (twN l 3) then 3 else if isBack (twN l 4) then 4 else 5
def roundsI (l : List UInt8) : Int := if firstBack l = 5 then -1 else firstBack l
def roundsB (l : List UInt8) : Bool := decide (firstBack l ≠ 5)
theorem rounds_hit {l : List UInt8} {n : Nat} (h1 : 1 ≤ n) (h4 : n ≤ 4) (hno : ∀ m, 1 ≤ m → m < n → isBack (twN l m) = false) (h : isBack (twN l n) = true) : roundsI l = n ∧ roundsB l = true := by
  have e : firstBack l = n := by
    unfold firstBack
    obtain rfl | rfl | rfl | rfl : n = 1 ∨ n = 2 ∨ n = 3 ∨ n = 4 := by omega
    · rw [h]; rfl
    · rw [hno 1 (by omega) (by omega), h]; rfl
    · rw [hno 1 (by omega) (by omega), hno 2 (by omega) (by omega), h]; rfl
    · rw [hno 1 (by omega) (by omega), hno 2 (by omega) (by omega), hno 3 (by omega) (by omega), h]; rfl
  unfold roundsI roundsB
  rw [e]
  constructor
  · rw [if_neg (by omega)]
  · simp; omega
theorem rounds_none {l : List UInt8} (hno : ∀ m, 1 ≤ m → m < 5 → isBack (twN l m) = false) : roundsI l = -1 ∧ roundsB l = false := by
  have e : firstBack l = 5 := by
    unfold firstBack
    rw [hno 1 (by omega) (by omega), hno 2 (by omega) (by omega), hno 3 (by omega) (by omega), hno 4 (by omega) (by omega)]; rfl
  unfold roundsI roundsB
  rw [e]
  exact ⟨rfl, rfl⟩

theorem wordOk_all {s : ByteArray} (h : wordOk s = true) : s.data.toList.all isLetter = true := by
  unfold wordOk at h; simp only [Bool.and_eq_true] at h; exact h.2
theorem isBack_yes {u : Int × Int × Int} (h : isBack u = true) : u = (0, 0, 0) := by unfold isBack at h; simpa using h
set_option maxHeartbeats 1000000 in
theorem roundsOf_c (s : ByteArray) (hs : s.size ≤ 64) (hok : wordOk s = true) (w : World) :
    Calls Tryd.prog 23 #[.string s] w fun e w' => e = .returned (.tuple #[.int .i64 (roundsI s.data.toList), .bool (roundsB s.data.toList)]) ∧ Below w.heap.size w w' := by
  have hlen : s.data.toList.length ≤ 64 := by simpa using hs
  have HA := hid (wordOk_all hok)
  have HT := hid (twN_in s.data.toList hlen)
  clear hlen
  go_enter Tryd.func23, Tryd.ntmps23
  go_wp2_with fail
  refine (specWordOk_c _ (by unfold maxLen; omega) _).mono ?_
  rintro e w1 ⟨rfl, rfl⟩
  go_wp2_with fail
  go_loopw [5] (fun i wr => ∃ n : Nat, n < 5 ∧ i = .int .i64 ((n : Int) + 1) ∧ Box3 w.heap.size (.int .i64 (twN s.data.toList n).1) (.int .i64 (twN s.data.toList n).2.1) (.int .i64 (twN s.data.toList n).2.2) wr ∧ Hid (∀ m, 1 ≤ m → m < n + 1 → isBack (twN s.data.toList m) = false) ∧ Below w.heap.size w wr) (fun i _ => 6 - (intOf i).toNat)
  case atStart =>
    refine ⟨0, by omega, rfl, ?_, fun m h1 h2 => by omega, by (repeat (first | exact Below.refl _ _ | refine Below.alloc ?_ (by simp <;> omega) _ | refine Below.setCell ?_ (by simp <;> omega) _ | refine Below.drew ?_ | refine below_drewN ?_ _))⟩
    refine ⟨?_, ?_, ?_, ?_, ?_, ?_, ?_⟩ <;> simp [twN]
  case round =>
    obtain ⟨n, hn, rfl, HB, HN, HL⟩ := hrel
    by_cases hlt : n < 4
    · have HI := hid (HT.out n (by omega))
      have HE : Hid (twN s.data.toList (n + 1) = tw (twN s.data.toList n) s.data.toList) := hid rfl
      have HB' := hid HB
      have HLL := hid HL
      obtain ⟨c0, c1, c2, f0, f1, f2, hz⟩ := HB
      clear HL
      generalize twN s.data.toList n = u at *
      obtain ⟨x, y, l⟩ := u
      simp only at c0 c1 c2
      have hn1 : (n : Int) + 1 ≤ 4 := by omega
      go_wp2_with fail
      refine (l1Walk_c (x, y, l) s (HI.out.mono (by omega)) (by omega) HA.out _).mono ?_
      rintro e w1 ⟨rfl, hb1⟩
      have H1 := hid (HB'.out.behind hb1)
      have H3 := hid (HLL.out.trans (hb1.mono HLL.out.size))
      clear hb1 c0 c1 c2 f0 f1 f2 hz
      rw [← HE.out]
      obtain ⟨v, hv⟩ : ∃ v, v = twN s.data.toList (n + 1) := ⟨_, rfl⟩
      rw [← hv]
      have HV := hid hv
      clear hv
      obtain ⟨x1, y1, l1⟩ := v
      obtain ⟨c0, c1, c2, f0, f1, f2, hz⟩ := H1.out
      cases hb : isBack (x1, y1, l1) with
      | true =>
        have hxyz := isBack_yes hb
        simp only [Prod.mk.injEq] at hxyz
        obtain ⟨rfl, rfl, rfl⟩ := hxyz
        have HR := hid (rounds_hit (l := s.data.toList) (n := n + 1) (by omega) (by omega) HN.out (by rw [← HV.out]; exact hb))
        clear hb
        go_wp2_with fail
        go_ret2
        refine ⟨ret_ib (by rw [HR.out.1]; omega) HR.out.2.symm, ((H3.out.setCell (by simp) _).setCell (by simp) _).setCell (by simp) _⟩
      | false =>
        have HNo := hid hb
        have HNew : Hid (∀ m, 1 ≤ m → m < n + 1 + 1 → isBack (twN s.data.toList m) = false) := fun m h1 h2 => by
          by_cases e : m = n + 1
          · rw [e, ← HV.out]; exact HNo.out
          · exact HN.out m h1 (by omega)
        clear hb
        go_wp2_with fail
        · exfalso
          have e1 : x1 = 0 := by assumption
          have e2 : y1 = 0 := by assumption
          have e3 : l1 = 0 := by assumption
          have := HNo.out
          rw [e1, e2, e3] at this
          exact absurd this (by decide)
        all_goals
          try (have e1 : x1 = 0 := by assumption
               subst e1)
          try (have e2 : y1 = 0 := by assumption
               subst e2)
          go_roundw
          case rel =>
            refine ⟨n + 1, by omega, by go_num, ?_, HNew, ((H3.out.setCell (by simp) _).setCell (by simp) _).setCell (by simp) _⟩
            rw [← HV.out]; exact H1.out.set _ _ _
          case measure => simp [intOf]; omega
    · obtain rfl : n = 4 := by omega
      have HR := hid (rounds_none (l := s.data.toList) HN.out)
      have HLL := hid HL
      clear HL HB
      go_wp2_with fail
      go_ret2
      exact ⟨ret_ib HR.out.1.symm HR.out.2.symm, HLL.out⟩
end Go.Proofs.YtbeacmealippmaaDoor
