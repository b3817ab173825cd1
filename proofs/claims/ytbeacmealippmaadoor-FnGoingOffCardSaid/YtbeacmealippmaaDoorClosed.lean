/- Contracts: ClosedSpirals of both packages. -/
import Derived.Test.YtbeacmealippmaaDoorRounds2
import Derived.Test.YtbeacmealippmaaDoorOff
namespace Go.Proofs.YtbeacmealippmaaDoor
open Go.RowKit TW

/-- Is this spiral closed after one time? -/
def cl1 (o m : Nat) : Bool := srB o m && (srI o m == 1)
/-- Those among the first m. -/
def clTo (o : Nat) : Nat → List Int
  | 0 => []
  | m + 1 => if cl1 o m then clTo o m ++ [(m : Int)] else clTo o m
theorem clTo_le (o : Nat) : ∀ m, (clTo o m).length ≤ m
  | 0 => Nat.le_refl _
  | m + 1 => by
    have := clTo_le o m
    unfold clTo
    split
    · simp; omega
    · omega
def clL' (o : Int) : List Int := if (decide (1 ≤ o) && decide (o ≤ 9)) then clTo o.toNat (2 ^ o.toNat) else []

theorem infoI : (Tryd.prog.info? 3).map (fun i => (i.zero, i.size, i.bytes)) = some (some (.int .i64 0), 1, 8) := by kernel_rfl

/-- A slice of the call's own that holds these numbers. -/
def Owns (B : Nat) (w : World) (v : Value) (L : List Int) : Prop := w.ownsRow B 3 1 v L.length (L.map (Value.int .i64))

theorem Owns.nil (B : Nat) (w : World) : Owns B w (.slice none 0 0) [] := World.ownsRow_nil _ _ _ _

theorem grown_none {wr w1 : World} (hb : Below wr.heap.size wr w1) : wr.grownBy w1 none := ⟨hb.os, hb.tape, hb.output, hb.size, fun k hk _ => hb.block k hk⟩
theorem Owns.behind {B : Nat} {wr w1 : World} {v : Value} {L : List Int} (h : Owns B wr v L) (hb : Below wr.heap.size wr w1) : Owns B w1 v L :=
  World.ownsRow.kept h (grown_none hb) (by cases v.ownBlock <;> simp)
theorem Owns.snoc {B : Nat} {w : World} {v : Value} {L : List Int} {m : Int} (h : w.ownsRow B 3 1 v (L.length + 1) (L.map (Value.int .i64) ++ [.int .i64 m])) : Owns B w v (L ++ [m]) := by
  unfold Owns; simpa using h

set_option maxHeartbeats 2000000 in
theorem implClosed_c (o : Int) (w : World) (hd : Dirs w) :
    Calls Tryd.prog 16 #[.int .i64 o] w fun e w' => ∃ v, e = .returned v ∧ Owns w.heap.size w' v (clL' o) ∧ Below w.heap.size w w' := by
  have HD := hid hd
  clear hd
  cases hv : (decide (1 ≤ o) && decide (o ≤ 9)) with
  | false =>
    have HR : Hid (clL' o = []) := by unfold clL'; rw [hv]; rfl
    go_enter Tryd.func16, Tryd.ntmps16
    go_wp2_with (go_at_call 28; refine (orderOk_c _ _).mono ?_; rintro e w' ⟨rfl, rfl⟩)
    go_ret
    exact ⟨_, rfl, by rw [HR.out]; exact Owns.nil _ _, Below.refl _ _⟩
  | true =>
    have hv2 := hv
    simp only [Bool.and_eq_true, decide_eq_true_eq] at hv2
    obtain ⟨n, rfl⟩ := Int.eq_ofNat_of_zero_le (show 0 ≤ o by omega)
    have HR : Hid (clL' n = clTo n (2 ^ n)) := by unfold clL'; rw [hv]; rfl
    have hn9 : n ≤ 9 := by omega
    have hw := wrap_pow n (by omega)
    have HP := hid (pow_512 n (by omega))
    obtain ⟨i0, hi, hz0, hz1, hz2⟩ := info_parts infoI
    clear hv2
    go_enter Tryd.func16, Tryd.ntmps16
    go_wp2_with (go_at_call 28; refine (orderOk_c _ _).mono ?_; rintro e w' ⟨rfl, rfl⟩)
    rw [hw]
    go_loopg [3, 12] 600 (fun g v i wr => ∃ m : Nat, g = 600 - m ∧ m ≤ 2 ^ n ∧ i = .int .i64 m ∧ Owns w.heap.size wr v (clTo n m) ∧ Below w.heap.size w wr)
    case atStart => exact ⟨0, rfl, Nat.zero_le _, rfl, Owns.nil _ _, Below.refl _ _⟩
    case round =>
      obtain ⟨m, hg, hm, rfl, hO, hB⟩ := hrel
      have HG := hid hg
      have HB := hid hB
      have HM := hid hm
      have HO := hid hO
      have hle := clTo_le n m
      have hm5 : m ≤ 512 := Nat.le_trans hm HP.out.1
      clear hg hB hm hO
      by_cases hlt : m < 2 ^ n
      · have hlt2 : (m : Int) < 2 ^ n := by rw [HP.out.2]; omega
        have HL := hid hlt
        clear hlt
        have HS : Hid (clTo n (m + 1) = if cl1 n m then clTo n m ++ [(m : Int)] else clTo n m) := hid rfl
        go_wp2_with fail
        refine (implSpiralRounds_c n m _ (HD.out.below HB.out)).mono ?_
        rintro e w1 ⟨rfl, hb⟩
        have HO := hid (HO.out.behind hb)
        have HB := hid (HB.out.trans (hb.mono HB.out.size))
        have hsz := HB.out.size
        clear hb
        cases hb : srB n m with
        | false =>
          have HS : Hid (clTo n (m + 1) = clTo n m) := by rw [HS.out]; unfold cl1; rw [hb]; exact hid rfl
          clear hb
          go_wp2_with fail
          go_roundg (600 - (m + 1))
          case measure => rw [HG.out]; omega
          case rel => exact ⟨m + 1, rfl, HL.out, by go_num, by rw [HS.out]; exact HO.out, HB.out⟩
        | true =>
          cases hi1 : (srI n m == 1) with
          | false =>
            have HS : Hid (clTo n (m + 1) = clTo n m) := by rw [HS.out]; unfold cl1; rw [hb, hi1]; exact hid rfl
            clear hb
            go_wp2_with fail
            go_roundg (600 - (m + 1))
            case measure => rw [HG.out]; omega
            case rel => exact ⟨m + 1, rfl, HL.out, by go_num, by rw [HS.out]; exact HO.out, HB.out⟩
          | true =>
            have HS : Hid (clTo n (m + 1) = clTo n m ++ [(m : Int)]) := by rw [HS.out]; unfold cl1; rw [hb, hi1]; exact hid rfl
            clear hb
            go_wp2_with (at_builtin; refine wpList_append_own _ rfl _ _ 32 rfl w.heap.size 3 i0 (.int .i64 0) 1 8 Tryd.underlying32 hi hz0 hz1 hz2 rfl (by decide) _ _ _ rfl (HO.out.alloc _) ⟨w1.heap.size, 0, none⟩ 1 1 [.int .i64 (m : Int)] rfl rfl ?c1 ?c2 ?c3 ?c4 ?c5 ?_)
            case c1 =>
              intro j u hj
              match j, hj with
              | 0, hj => simp at hj; subst hj; simp [Addr.add]
            case c2 => intro u hu; simp at hu; subst hu; rfl
            case c3 => unfold maxLen; omega
            case c4 => omega
            case c5 => simp; omega
            intro v' w2 hown' hgrow _
            have HO2 := hid (Owns.snoc hown')
            have HB2 := hid ((HB.out.alloc hsz (.cells #[.int .i64 (m : Int)] 3)).grown hgrow (by simp; omega) (fun k hk => (HO.out.lt k hk).1))
            clear hown' hgrow
            go_wp2_with fail
            go_roundg (600 - (m + 1))
            case measure => rw [HG.out]; omega
            case rel => exact ⟨m + 1, rfl, HL.out, by go_num, by rw [HS.out]; exact HO2.out, HB2.out⟩
      · have hge : ¬ (m : Int) < 2 ^ n := by rw [HP.out.2]; omega
        have HM2 : Hid (m = 2 ^ n) := by have := HM.out; exact hid (by omega)
        clear hlt
        go_wp2_with fail
        go_ret
        exact ⟨_, rfl, by rw [HR.out, ← HM2.out]; exact HO.out, HB.out⟩
end Go.Proofs.YtbeacmealippmaaDoor
