/- Contracts: BackWalk of both packages. -/
import Derived.Test.YtmojhdnehmjnmaaDoorSpC
import Derived.OwnWalk
import Derived.Laws.OwnMore
import Derived.Laws.IdiomStrings
import Derived.Deep.LoopGhost
import Derived.LoopN
namespace Go.Proofs.YtmojhdnehmjnmaaDoor
open Go.RowKit TW

theorem infoU8 : (Tryd.prog.info? 5).map (fun i => (i.zero, i.size, i.bytes)) = some (some (.int .u8 0), 1, 1) := by kernel_rfl
/-- The cells of bytes, and their text. -/
def bc (L : List UInt8) : List Value := L.map (fun b => Value.int .u8 (b.toNat : Int))
def bStr (L : List UInt8) : ByteArray := ⟨L.toArray⟩
theorem bc_len (L : List UInt8) : (bc L).length = L.length := by unfold bc; simp
theorem bc_append (L M : List UInt8) : bc (L ++ M) = bc L ++ bc M := by unfold bc; simp
theorem bc_at (L : List UInt8) (j : Nat) (h : j < L.length) : (bc L)[j]? = some (.int .u8 (L[j].toNat : Int)) := by
  unfold bc; rw [List.getElem?_map, List.getElem?_eq_getElem h]; rfl
theorem lets_bStr (L : List UInt8) : lets (bStr L) = L := by unfold lets bStr; simp
theorem bStr_size (L : List UInt8) : (bStr L).size = L.length := by unfold bStr; simp [ByteArray.size]
theorem bStr_snoc (L : List UInt8) (b : UInt8) : bStr (L ++ [b]) = bStr L ++ ⟨#[b]⟩ := by
  apply ByteArray.ext; simp [bStr, ByteArray.data_append]
theorem bStr_lets (s : ByteArray) : bStr (lets s) = s := by apply ByteArray.ext; simp [bStr, lets]

/-- The way back, for whatever text. -/
def bkS (s : ByteArray) : ByteArray := if wkL (lets s) then bStr (backL (lets s)) else ⟨#[]⟩
theorem bkS_no {s : ByteArray} (h : wkL (lets s) = false) : bkS s = ⟨#[]⟩ := by unfold bkS; rw [h]; rfl
theorem bkS_yes {s : ByteArray} (h : wkL (lets s) = true) : bkS s = bStr (backL (lets s)) := by unfold bkS; rw [if_pos h]
theorem back_take {s : ByteArray} {m q : Nat} (hq : q + m + 1 = s.size) : (backL (lets s)).take (m + 1) = (backL (lets s)).take m ++ [otherB (s[q]'(by omega))] := by
  have hlen : (backL (lets s)).length = s.size := by rw [back_len, lets_len]
  rw [List.take_succ_eq_append_getElem (by omega)]
  congr 2
  have h1 := back_at (l := lets s) (j := m) (by rw [lets_len]; omega)
  rw [lets_len, show s.size - 1 - m = q from by omega, at0_lets (by omega : q < s.size)] at h1
  unfold at0 at h1
  rw [List.getD_eq_getElem?_getD, List.getElem?_eq_getElem (by omega)] at h1
  exact h1
/-- A step and the one back. -/
def BackIs (b : UInt8) (l : Int) (o : UInt8) : Prop := lkB b = l ∧ otherB b = o
theorem back_is {b : UInt8} (h : isStep b = true) : BackIs b 0 119 ∨ BackIs b 1 115 ∨ BackIs b 2 101 ∨ BackIs b 3 110 := by
  unfold BackIs
  rcases isStep_cases h with rfl | rfl | rfl | rfl <;> decide

set_option maxHeartbeats 4000000 in
theorem specBackWalk_c (s : ByteArray) (hs : s.size ≤ maxLen) (w : World) :
    Calls Tryd.prog 11 #[.string s] w fun e w' => e = .returned (.string (bkS s)) ∧ w = w' := by
  have HW := hid (fun w => specWalkOk_c s hs w)
  cases hok : wkL (lets s) with
  | false =>
    have HR := hid (bkS_no hok)
    have h1 : 1 ≤ s.size := by
      apply Classical.byContradiction
      intro hn
      have : lets s = [] := List.eq_nil_of_length_eq_zero (by rw [lets_len]; omega)
      rw [this] at hok
      cases hok
    rw [hok] at HW
    have i0 : (0 : Int) ≤ (s.size : Int) - 1 := by omega
    unfold maxLen at hs
    clear hok
    go_enter Tryd.func11, Tryd.ntmps11
    go_wp2_with fail
    refine wp_loop_rounds 1 ?_
    rw [rounds_succ]
    go_wp2_with fail
    refine (HW.out _).mono ?_
    rintro e w1 ⟨rfl, rfl⟩
    go_wp2_with fail
    go_ret
    exact ⟨ret_str HR.out.symm, rfl⟩
  | true =>
    have HR := hid (bkS_yes hok)
    have h40 := wkL_len hok
    rw [lets_len] at h40
    have HA := hid (wk_all hok)
    rw [hok] at HW
    clear hok hs
    go_enter Tryd.func11, Tryd.ntmps11
    go_wp2_with fail
    go_loopg [3, 4] 100 (fun gg o i wr => ∃ (m : Nat) (z : Int) (r : ByteArray), gg = 100 - m ∧ Hid (z + m + 1 = s.size) ∧ -1 ≤ z ∧ z < s.size ∧ i = .int .i64 z ∧ o = .string r ∧ r.size ≤ m ∧ m ≤ 40 ∧ Hid (r = bStr ((backL (lets s)).take m)) ∧ wr = w)
    case atStart => exact ⟨0, (s.size : Int) - 1, ⟨#[]⟩, rfl, hid (by omega), by omega, by omega, rfl, rfl, Nat.le_refl _, by omega, hid rfl, rfl⟩
    case round =>
      obtain ⟨m, z, r, hgg, HZ, hz1, hz2, rfl, rfl, hrs, hm, HRR, rfl⟩ := hrel
      have HGG := hid hgg
      clear hgg
      by_cases hz : 0 ≤ z
      · obtain ⟨q, rfl⟩ := Int.eq_ofNat_of_zero_le hz
        have hq : q + m + 1 = s.size := by have := HZ.out; omega
        have hqs : q < s.size := by omega
        have hst : isStep s[q] = true := by
          have h1 := HA.out
          rw [List.all_eq_true] at h1
          exact h1 _ (by have := take_snoc s q hqs; exact List.mem_of_mem_take (i := q + 1) (by rw [this]; simp))
        have HT := hid (back_take hq)
        have HC := hid (fun w => l4Look_c s[q] w)
        have HQ := hid hq
        have hm2 : m + 1 ≤ 40 := by omega
        rcases back_is hst with hb | hb | hb | hb
        all_goals
          obtain ⟨e1, e2⟩ := hb
          rw [e1] at HC
          rw [e2] at HT
          clear e1 e2 hst hq
          go_wp2_with fail
          refine (HW.out _).mono ?_
          rintro e w1 ⟨rfl, rfl⟩
          go_wp2_with fail
          refine (HC.out _).mono ?_
          rintro e w2 ⟨rfl, rfl⟩
          go_wp2_with fail
          go_roundg (100 - (m + 1))
          case measure => rw [HGG.out]; omega
          case rel => exact ⟨m + 1, (q : Int) - 1, _, rfl, hid (by have := HQ.out; omega), by omega, by omega, rfl, rfl, by rw [ByteArray.size_append]; exact Nat.add_le_add_right hrs 1, hm2, hid (by rw [HT.out, bStr_snoc, HRR.out]; rfl), rfl⟩
      · have hz0 : z = -1 := by omega
        have HE : Hid (r = bkS s) := hid (by
          have e : m = s.size := by have := HZ.out; omega
          rw [HRR.out, HR.out, e, List.take_of_length_le (by rw [back_len, lets_len]; exact Nat.le_refl _)])
        subst hz0
        clear hz hz1 hz2
        go_wp2_with fail
        go_ret
        exact ⟨ret_str HE.out, rfl⟩

set_option maxHeartbeats 4000000 in
theorem implBackWalk_c (s : ByteArray) (hs : s.size ≤ maxLen) (w : World) :
    Calls Tryd.prog 10 #[.string s] w fun e w' => e = .returned (.string (bkS s)) ∧ Below w.heap.size w w' := by
  cases hok : wkL (lets s) with
  | false =>
    have HR := hid (bkS_no hok)
    have HW := hid (fun w => implWalkOk_c s hs w)
    rw [hok] at HW
    clear hok
    go_enter Tryd.func10, Tryd.ntmps10
    go_wp2_with fail
    refine (HW.out _).mono ?_
    rintro e w1 ⟨rfl, rfl⟩
    go_wp2_with fail
    go_ret
    exact ⟨ret_str HR.out.symm, Below.refl _ _⟩
  | true =>
    have HR := hid (bkS_yes hok)
    have HW := hid (fun w => implWalkOk_c s hs w)
    have h40 := wkL_len hok
    rw [lets_len] at h40
    have HA := hid (wk_all hok)
    rw [hok] at HW
    obtain ⟨i0, hi, hz0, hz1, hz2⟩ := info_parts infoU8
    clear hok hs
    go_enter Tryd.func10, Tryd.ntmps10
    go_wp2_with fail
    refine (HW.out _).mono ?_
    rintro e w1 ⟨rfl, rfl⟩
    go_wp2_with (at_make; refine wpList_make_own _ rfl _ _ 22 rfl w.heap.size 5 i0 (.int .u8 0) 1 Tryd.underlying22 hi hz0 hz1 .i64 .i64 _ s.size rfl rfl rfl (by rw [hz2]; omega) (by unfold maxLen; omega) (Nat.le_refl _) ?_; intro w2 hown hg)
    have HO := hid hown
    have HB : Hid (Below w.heap.size w w2) := hid ((Below.refl _ _).grown hg (Nat.le_refl _) (fun k hk => by cases hk))
    have HS2 : Hid (w.heap.size < w2.heap.size) := hid (hown.lt w.heap.size rfl).2
    clear hown hg
    go_wp2_with fail
    go_loopg [3, 4] 100 (fun gg o i wr => ∃ (m : Nat) (z : Int), gg = 100 - m ∧ Hid (z + m + 1 = s.size) ∧ -1 ≤ z ∧ z < s.size ∧ i = .int .i64 z ∧ o = .slice (some ⟨w.heap.size, 0, none⟩) m s.size ∧ m ≤ 40 ∧ Hid (wr.ownsRow w.heap.size 5 1 (.slice (some ⟨w.heap.size, 0, none⟩) m s.size) m (bc ((backL (lets s)).take m))) ∧ Hid (Below w.heap.size w wr) ∧ Hid (w.heap.size < wr.heap.size))
    case atStart => exact ⟨0, (s.size : Int) - 1, rfl, hid (by omega), by omega, by omega, rfl, rfl, by omega, HO, HB, HS2⟩
    case round =>
      clear HO HB HS2
      obtain ⟨m, z, hgg, HZ, hz1', hz2', rfl, rfl, hm, HO, HB, HS2⟩ := hrel
      have HGG := hid hgg
      clear hgg
      by_cases hz : 0 ≤ z
      · obtain ⟨q, rfl⟩ := Int.eq_ofNat_of_zero_le hz
        have hq : q + m + 1 = s.size := by have := HZ.out; omega
        have hqs : q < s.size := by omega
        have hst : isStep s[q] = true := by
          have h1 := HA.out
          rw [List.all_eq_true] at h1
          exact h1 _ (by have := take_snoc s q hqs; exact List.mem_of_mem_take (i := q + 1) (by rw [this]; simp))
        have HT := hid (back_take hq)
        have HC := hid (fun w => directionOf_c s[q] w)
        have HQ := hid hq
        have hm2 : m + 1 ≤ 40 := by omega
        have hm3 : m + 1 ≤ s.size := by omega
        rcases back_is hst with hb | hb | hb | hb
        · obtain ⟨e1, e2⟩ := hb
          rw [e1] at HC
          rw [e2] at HT
          clear e1 e2 hst hq
          go_wp2_with fail
          refine (HC.out _).mono ?_
          rintro e w3 ⟨rfl, rfl⟩
          go_wp2_with (at_builtin; refine wpList_append_fits _ rfl _ _ 22 rfl w.heap.size 5 i0 1 Tryd.underlying22 hi hz1 w.heap.size m s.size _ rfl (HO.out.alloc _) ⟨wr.heap.size, 0, none⟩ 1 1 [.int .u8 119] rfl rfl (World.news_of_block (cs := #[.int .u8 119]) (t := 5) (fr := (0, 0)) (heap_alloc_new wr _)) (by simp [Value.oneCell']) hm3 ?_; intro w5 hown5 hg5)
          have HO5 := hid hown5
          have HB5 := hid ((HB.out.alloc HB.out.size (.cells #[.int .u8 119] 5)).grown hg5 (by have := HS2.out; simp; omega) (fun k hk => by cases hk; exact Nat.le_refl _))
          have HS5 : Hid (w.heap.size < w5.heap.size) := hid (by have h1 := hg5.size; have h2 := HS2.out; simp at h1; omega)
          clear hown5 hg5
          go_wp2_with fail
          go_roundg (100 - (m + 1))
          case measure => rw [HGG.out]; omega
          case rel => exact ⟨m + 1, (q : Int) - 1, rfl, hid (by have := HQ.out; omega), by omega, by omega, rfl, rfl, hm2, hid (by rw [HT.out, bc_append]; exact HO5.out), HB5, HS5⟩
        · obtain ⟨e1, e2⟩ := hb
          rw [e1] at HC
          rw [e2] at HT
          clear e1 e2 hst hq
          go_wp2_with fail
          refine (HC.out _).mono ?_
          rintro e w3 ⟨rfl, rfl⟩
          go_wp2_with (at_builtin; refine wpList_append_fits _ rfl _ _ 22 rfl w.heap.size 5 i0 1 Tryd.underlying22 hi hz1 w.heap.size m s.size _ rfl (HO.out.alloc _) ⟨wr.heap.size, 0, none⟩ 1 1 [.int .u8 115] rfl rfl (World.news_of_block (cs := #[.int .u8 115]) (t := 5) (fr := (0, 0)) (heap_alloc_new wr _)) (by simp [Value.oneCell']) hm3 ?_; intro w5 hown5 hg5)
          have HO5 := hid hown5
          have HB5 := hid ((HB.out.alloc HB.out.size (.cells #[.int .u8 115] 5)).grown hg5 (by have := HS2.out; simp; omega) (fun k hk => by cases hk; exact Nat.le_refl _))
          have HS5 : Hid (w.heap.size < w5.heap.size) := hid (by have h1 := hg5.size; have h2 := HS2.out; simp at h1; omega)
          clear hown5 hg5
          go_wp2_with fail
          go_roundg (100 - (m + 1))
          case measure => rw [HGG.out]; omega
          case rel => exact ⟨m + 1, (q : Int) - 1, rfl, hid (by have := HQ.out; omega), by omega, by omega, rfl, rfl, hm2, hid (by rw [HT.out, bc_append]; exact HO5.out), HB5, HS5⟩
        · obtain ⟨e1, e2⟩ := hb
          rw [e1] at HC
          rw [e2] at HT
          clear e1 e2 hst hq
          go_wp2_with fail
          refine (HC.out _).mono ?_
          rintro e w3 ⟨rfl, rfl⟩
          go_wp2_with (at_builtin; refine wpList_append_fits _ rfl _ _ 22 rfl w.heap.size 5 i0 1 Tryd.underlying22 hi hz1 w.heap.size m s.size _ rfl (HO.out.alloc _) ⟨wr.heap.size, 0, none⟩ 1 1 [.int .u8 101] rfl rfl (World.news_of_block (cs := #[.int .u8 101]) (t := 5) (fr := (0, 0)) (heap_alloc_new wr _)) (by simp [Value.oneCell']) hm3 ?_; intro w5 hown5 hg5)
          have HO5 := hid hown5
          have HB5 := hid ((HB.out.alloc HB.out.size (.cells #[.int .u8 101] 5)).grown hg5 (by have := HS2.out; simp; omega) (fun k hk => by cases hk; exact Nat.le_refl _))
          have HS5 : Hid (w.heap.size < w5.heap.size) := hid (by have h1 := hg5.size; have h2 := HS2.out; simp at h1; omega)
          clear hown5 hg5
          go_wp2_with fail
          go_roundg (100 - (m + 1))
          case measure => rw [HGG.out]; omega
          case rel => exact ⟨m + 1, (q : Int) - 1, rfl, hid (by have := HQ.out; omega), by omega, by omega, rfl, rfl, hm2, hid (by rw [HT.out, bc_append]; exact HO5.out), HB5, HS5⟩
        · obtain ⟨e1, e2⟩ := hb
          rw [e1] at HC
          rw [e2] at HT
          clear e1 e2 hst hq
          go_wp2_with fail
          refine (HC.out _).mono ?_
          rintro e w3 ⟨rfl, rfl⟩
          go_wp2_with (at_builtin; refine wpList_append_fits _ rfl _ _ 22 rfl w.heap.size 5 i0 1 Tryd.underlying22 hi hz1 w.heap.size m s.size _ rfl (HO.out.alloc _) ⟨wr.heap.size, 0, none⟩ 1 1 [.int .u8 110] rfl rfl (World.news_of_block (cs := #[.int .u8 110]) (t := 5) (fr := (0, 0)) (heap_alloc_new wr _)) (by simp [Value.oneCell']) hm3 ?_; intro w5 hown5 hg5)
          have HO5 := hid hown5
          have HB5 := hid ((HB.out.alloc HB.out.size (.cells #[.int .u8 110] 5)).grown hg5 (by have := HS2.out; simp; omega) (fun k hk => by cases hk; exact Nat.le_refl _))
          have HS5 : Hid (w.heap.size < w5.heap.size) := hid (by have h1 := hg5.size; have h2 := HS2.out; simp at h1; omega)
          clear hown5 hg5
          go_wp2_with fail
          go_roundg (100 - (m + 1))
          case measure => rw [HGG.out]; omega
          case rel => exact ⟨m + 1, (q : Int) - 1, rfl, hid (by have := HQ.out; omega), by omega, by omega, rfl, rfl, hm2, hid (by rw [HT.out, bc_append]; exact HO5.out), HB5, HS5⟩
      · have hz0 : z = -1 := by omega
        have e : m = s.size := by have := HZ.out; omega
        have hlen : (backL (lets s)).length = s.size := by rw [back_len, lets_len]
        have hO := HO.out
        rw [e, List.take_of_length_le (by omega)] at hO
        have hcv := run_convert_bytes_back (P := Tryd.prog) wr 22 9 5 ⟨w.heap.size, 0, none⟩ s.size (backL (lets s)) Tryd.underlying22 Tryd.underlying5 Tryd.underlying9 (fun j hj => by
          have hadd : (⟨w.heap.size, 0, none⟩ : Addr).add j = ⟨w.heap.size, j, none⟩ := by unfold Addr.add; split <;> simp_all
          rw [hadd]
          have q := World.ownsRow.cellAt hO j (by omega)
          rw [bc_at _ _ hj] at q
          exact q)
        rw [hlen] at hcv
        have HCV := hid hcv
        subst hz0
        subst e
        clear hO hlen hz hz1' hz2' hcv
        have hcv := HCV.out
        go_wp2_with fail
        go_ret
        exact ⟨ret_str (by rw [HR.out]; rfl), HB.out⟩
end Go.Proofs.YtmojhdnehmjnmaaDoor
