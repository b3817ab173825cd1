/- Contracts: a strings.Builder of the call's own, as a list of bytes. -/
import Derived.Test.YtbklcalpojkjfaaDoorBuilder
import Derived.Test.YtbklcalpojkjfaaDoorSpWordP
import Derived.Test.YtbklcalpojkjfaaDoorShelf
import Derived.Deep.LoopGhost
namespace Go.Proofs.YtbklcalpojkjfaaDoor
open Go.RowKit TW

/-- What the loops keep: the builder holds these bytes; what was there has not turned. -/
def BdAt (w : World) (l : List UInt8) (wr : World) : Prop :=
  Lib.IsBuilder 36 5 w.heap.size w.heap.size (Lib.byteCells l) wr ∧ w.heap.size ≤ wr.heap.size ∧ Below w.heap.size w wr

theorem BdAt.start (w : World) : BdAt w [] (w.alloc (.cells #[.pointer none, .slice none 0 0] 36)) :=
  ⟨Lib.fresh_isBuilder _ _ w, by simp, (Below.refl _ _).alloc (Nat.le_refl _) _⟩

/-- A call that leaves all that was there alone. -/
theorem grown_of_below {wr w1 : World} (hb : Below wr.heap.size wr w1) : wr.grownBy w1 none := ⟨hb.os, hb.tape, hb.output, hb.size, fun k hk _ => hb.block k hk⟩
theorem builderAt_behind {T e : TypeId} {B b : Nat} {p : Value} {bs : List Value} {wr w1 : World} (h : Lib.BuilderAt T e B b p bs wr) (hb : Below wr.heap.size wr w1) : Lib.BuilderAt T e B b p bs w1 := by
  have hlt := h.lt
  obtain ⟨hB, v, hbk, hown, hne⟩ := h
  exact ⟨hB, v, (hb.block b hlt).trans hbk, hown.kept (grown_of_below hb) (by cases v.ownBlock <;> simp), hne⟩
theorem bd_behind {w wr w1 : World} {l : List UInt8} (h : BdAt w l wr) (hb : Below wr.heap.size wr w1) : BdAt w l w1 := by
  obtain ⟨h1, h2, h3⟩ := h
  refine ⟨?_, Nat.le_trans h2 hb.size, h3.trans (hb.mono h2)⟩
  rcases h1 with h1 | h1
  · exact .inl (builderAt_behind h1 hb)
  · exact .inr (builderAt_behind h1 hb)
/-- WriteByte at this builder. -/
theorem bd_write (w wr : World) (l : List UInt8) (c : UInt8) (n : Int) (hn : n = (c.toNat : Int)) (h : BdAt w l wr) (hl : l.length ≤ 1000000) :
    Calls Tryd.prog 16 #[.pointer (some ⟨w.heap.size, 0, none⟩), .int .u8 n] wr fun e w' => e = .returned .nilIface ∧ BdAt w (l ++ [c]) w' := by
  subst hn
  obtain ⟨h1, h2, h3⟩ := h
  refine (writeByte_c w.heap.size w.heap.size (Lib.byteCells l) c.toNat wr h1 (by rw [Lib.byteCells_length]; omega) h2).mono ?_
  rintro e w' ⟨he, hb, hbel⟩
  refine ⟨he, ?_, Nat.le_trans h2 hbel.size, h3.trans hbel⟩
  rw [Lib.byteCells_append]; exact hb

theorem bd_string (w wr : World) (l : List UInt8) (h : BdAt w l wr) :
    Calls Tryd.prog 18 #[.pointer (some ⟨w.heap.size, 0, none⟩)] wr fun e w' => e = .returned (.string (strOf l)) ∧ Below w.heap.size w w' := by
  obtain ⟨h1, h2, h3⟩ := h
  exact (Tryd.Builder_String_any w.heap.size w.heap.size l wr h1 h2).mono fun e w' ⟨he, hb⟩ => ⟨he, h3.trans hb⟩

end Go.Proofs.YtbklcalpojkjfaaDoor
