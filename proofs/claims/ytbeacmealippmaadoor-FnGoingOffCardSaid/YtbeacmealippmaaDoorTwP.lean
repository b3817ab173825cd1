/- A word walked from elsewhere, and mirrored. -/
import Derived.Test.YtbeacmealippmaaDoorRounds
namespace Go.Proofs.YtbeacmealippmaaDoor
open Go.RowKit

/-- What a turtle at (x, y) that looks to l does where one at the beginning that looks to the east does (a, b, m). -/
def turnX (l a b : Int) : Int := if l = 0 then a else if l = 1 then -b else if l = 2 then -a else b
def turnY (l a b : Int) : Int := if l = 0 then b else if l = 1 then a else if l = 2 then -b else -a
def putT (t u : Int × Int × Int) : Int × Int × Int := (t.1 + turnX t.2.2 u.1 u.2.1, t.2.1 + turnY t.2.2 u.1 u.2.1, (t.2.2 + u.2.2) % 4)
def LookOk (t : Int × Int × Int) : Prop := 0 ≤ t.2.2 ∧ t.2.2 < 4
theorem step_put (t u : Int × Int × Int) (b : UInt8) (ht : LookOk t) (hu : LookOk u) : step (putT t u) b = putT t (step u b) := by
  obtain ⟨x, y, l⟩ := t
  obtain ⟨p, q, m⟩ := u
  unfold LookOk at ht hu
  simp only at ht hu
  have h1 : l = 0 ∨ l = 1 ∨ l = 2 ∨ l = 3 := by omega
  have h2 : m = 0 ∨ m = 1 ∨ m = 2 ∨ m = 3 := by omega
  unfold step putT turnX turnY dxI dyI
  cases ((b.toNat : Int) == 70)
  · cases ((b.toNat : Int) == 76)
    · cases ((b.toNat : Int) == 82)
      · rcases h1 with rfl | rfl | rfl | rfl <;> rcases h2 with rfl | rfl | rfl | rfl <;> simp
      · rcases h1 with rfl | rfl | rfl | rfl <;> rcases h2 with rfl | rfl | rfl | rfl <;> simp
    · rcases h1 with rfl | rfl | rfl | rfl <;> rcases h2 with rfl | rfl | rfl | rfl <;> simp
  · rcases h1 with rfl | rfl | rfl | rfl <;> rcases h2 with rfl | rfl | rfl | rfl <;> simp <;> omega
theorem step_look (t : Int × Int × Int) (b : UInt8) (ht : LookOk t) : LookOk (step t b) := by
  have := step_bd t b ht; exact ⟨this.2.2.2.2.1, this.2.2.2.2.2⟩
theorem tw_look (l : List UInt8) : ∀ t : Int × Int × Int, LookOk t → LookOk (tw t l) := by
  induction l with
  | nil => intro t h; exact h
  | cons b l ih => intro t h; exact ih _ (step_look t b h)
theorem tw_put (t : Int × Int × Int) (ht : LookOk t) (l : List UInt8) : ∀ u : Int × Int × Int, LookOk u → tw (putT t u) l = putT t (tw u l) := by
  induction l with
  | nil => intro u _; rfl
  | cons b l ih =>
    intro u hu
    show tw (step (putT t u) b) l = putT t (tw (step u b) l)
    rw [step_put t u b ht hu]; exact ih _ (step_look u b hu)
theorem put_zero (t : Int × Int × Int) (ht : LookOk t) : putT t (0, 0, 0) = t := by
  obtain ⟨x, y, l⟩ := t
  unfold LookOk at ht
  simp only at ht
  have h1 : l = 0 ∨ l = 1 ∨ l = 2 ∨ l = 3 := by omega
  unfold putT turnX turnY
  rcases h1 with rfl | rfl | rfl | rfl <;> simp
theorem tw_from (t : Int × Int × Int) (ht : LookOk t) (l : List UInt8) : tw t l = putT t (tw (0, 0, 0) l) := by
  have := tw_put t ht l (0, 0, 0) ⟨by decide, by decide⟩
  rwa [put_zero t ht] at this

/-- When the word is back for the first time. -/
theorem firstBack_of (l : List UInt8) : (tw (0, 0, 0) l = (0, 0, 0) → firstBack l = 1) ∧ ((tw (0, 0, 0) l).2.2 ≠ 0 → firstBack l ≠ 5 ∧ firstBack l ≠ 1) ∧ ((tw (0, 0, 0) l).2.2 = 0 → tw (0, 0, 0) l ≠ (0, 0, 0) → firstBack l = 5) := by
  have hl := tw_look l (0, 0, 0) ⟨by decide, by decide⟩
  have e1 : twN l 1 = tw (0, 0, 0) l := rfl
  have e2 : twN l 2 = putT (twN l 1) (tw (0, 0, 0) l) := tw_from _ (by rw [e1]; exact hl) l
  have k2 : LookOk (twN l 2) := tw_look l _ (by rw [e1]; exact hl)
  have e3 : twN l 3 = putT (twN l 2) (tw (0, 0, 0) l) := tw_from _ k2 l
  have k3 : LookOk (twN l 3) := tw_look l _ k2
  have e4 : twN l 4 = putT (twN l 3) (tw (0, 0, 0) l) := tw_from _ k3 l
  unfold firstBack
  rw [e4, e3, e2, e1]
  generalize tw (0, 0, 0) l = u at *
  obtain ⟨a, b, m⟩ := u
  clear e1 e2 e3 e4 k2 k3
  unfold LookOk at hl
  simp only at hl
  have h2 : m = 0 ∨ m = 1 ∨ m = 2 ∨ m = 3 := by omega
  refine ⟨fun h => ?_, fun h => ?_, fun h hn => ?_⟩
  · rw [h]; rfl
  · simp only at h
    have n1 : isBack (a, b, m) = false := by unfold isBack; simp; omega
    rw [n1]
    rcases h2 with rfl | rfl | rfl | rfl
    · exact absurd rfl h
    · have y4 : isBack (putT (putT (putT (a, b, 1) (a, b, 1)) (a, b, 1)) (a, b, 1)) = true := by
        unfold isBack putT turnX turnY; simp; omega
      rw [y4]
      (repeat' split) <;> simp_all
    · have y2 : isBack (putT (a, b, 2) (a, b, 2)) = true := by
        unfold isBack putT turnX turnY; simp; omega
      rw [y2]
      (repeat' split) <;> simp_all
    · have y4 : isBack (putT (putT (putT (a, b, 3) (a, b, 3)) (a, b, 3)) (a, b, 3)) = true := by
        unfold isBack putT turnX turnY; simp; omega
      rw [y4]
      (repeat' split) <;> simp_all
  · simp only at h
    subst h
    have hn2 : ¬ (a = 0 ∧ b = 0) := fun c => hn (by rw [c.1, c.2])
    have n1 : isBack (a, b, 0) = false := by unfold isBack; simp; intro c; exact fun d => hn2 ⟨c, d⟩
    have n2 : isBack (putT (a, b, 0) (a, b, 0)) = false := by unfold isBack putT turnX turnY; simp; omega
    have n3 : isBack (putT (putT (a, b, 0) (a, b, 0)) (a, b, 0)) = false := by unfold isBack putT turnX turnY; simp; omega
    have n4 : isBack (putT (putT (putT (a, b, 0) (a, b, 0)) (a, b, 0)) (a, b, 0)) = false := by unfold isBack putT turnX turnY; simp; omega
    rw [n1, n2, n3, n4]; rfl

/-! ### mirrored: L for R and R for L -/
def mirB (b : UInt8) : UInt8 := if b = 76 then 82 else if b = 82 then 76 else b
def mirT (t : Int × Int × Int) : Int × Int × Int := (t.1, -t.2.1, (4 - t.2.2) % 4)
theorem mir_step (t : Int × Int × Int) (b : UInt8) (ht : LookOk t) (hb : isLetter b = true) : step (mirT t) (mirB b) = mirT (step t b) := by
  obtain ⟨x, y, l⟩ := t
  unfold LookOk at ht
  simp only at ht
  have h1 : l = 0 ∨ l = 1 ∨ l = 2 ∨ l = 3 := by omega
  have hb' : b = 70 ∨ b = 76 ∨ b = 82 := by
    unfold isLetter at hb
    simp only [Bool.or_eq_true, beq_iff_eq] at hb
    have e : ∀ n : Nat, n < 256 → b.toNat = n → b = UInt8.ofNat n := fun n _ h => by rw [← h, UInt8.ofNat_toNat]
    rcases hb with (h | h) | h
    · exact .inl (e 70 (by omega) (by omega))
    · exact .inr (.inl (e 76 (by omega) (by omega)))
    · exact .inr (.inr (e 82 (by omega) (by omega)))
  unfold step mirT mirB dxI dyI
  rcases hb' with rfl | rfl | rfl <;> rcases h1 with rfl | rfl | rfl | rfl <;> simp <;> omega
theorem mir_tw (l : List UInt8) : l.all isLetter = true → ∀ t : Int × Int × Int, LookOk t → tw (mirT t) (l.map mirB) = mirT (tw t l) := by
  induction l with
  | nil => intro _ t _; rfl
  | cons b l ih =>
    intro hl t ht
    simp only [List.all_cons, Bool.and_eq_true] at hl
    show tw (step (mirT t) (mirB b)) (l.map mirB) = mirT (tw (step t b) l)
    rw [mir_step t b ht hl.1]; exact ih hl.2 _ (step_look t b ht)
theorem mir_twN (l : List UInt8) (hl : l.all isLetter = true) : ∀ n : Nat, twN (l.map mirB) n = mirT (twN l n) ∧ LookOk (twN l n)
  | 0 => ⟨rfl, show LookOk (0, 0, 0) from ⟨by decide, by decide⟩⟩
  | n + 1 => by
    have ih := mir_twN l hl n
    refine ⟨?_, tw_look l _ ih.2⟩
    show tw (twN (l.map mirB) n) (l.map mirB) = mirT (tw (twN l n) l)
    rw [ih.1]; exact mir_tw l hl _ ih.2
theorem mir_back (t : Int × Int × Int) (ht : LookOk t) : isBack (mirT t) = isBack t := by
  obtain ⟨x, y, l⟩ := t
  unfold LookOk at ht
  simp only at ht
  have h1 : l = 0 ∨ l = 1 ∨ l = 2 ∨ l = 3 := by omega
  unfold isBack mirT
  rcases h1 with rfl | rfl | rfl | rfl <;> simp
theorem mir_first (l : List UInt8) (hl : l.all isLetter = true) : firstBack (l.map mirB) = firstBack l := by
  unfold firstBack
  have m := fun n => mir_twN l hl n
  have b := fun n => (by rw [(m n).1]; exact mir_back _ (m n).2 : isBack (twN (l.map mirB) n) = isBack (twN l n))
  rw [b 1, b 2, b 3, b 4]
end Go.Proofs.YtbeacmealippmaaDoor
