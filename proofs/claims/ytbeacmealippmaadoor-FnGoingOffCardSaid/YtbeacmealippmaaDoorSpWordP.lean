/- The word of a spiral as a list of bytes. Plain Lean. -/
namespace Go.Proofs.TW

/-- The letter behind k steps. -/
def spTurn (r : Nat) (k : Nat) : UInt8 := if r / 2 ^ (k - 1) % 2 = 1 then 82 else 76
/-- The first n parts of the word of a spiral. -/
def spWord (r : Nat) : Nat → List UInt8
  | 0 => []
  | n + 1 => spWord r n ++ (List.replicate (n + 1) 70 ++ [spTurn r (n + 1)])

theorem spWord_length (r : Nat) : ∀ n : Nat, 2 * (spWord r n).length = n * (n + 3)
  | 0 => rfl
  | n + 1 => by
    have ih := spWord_length r n
    simp only [spWord, List.length_append, List.length_replicate, List.length_cons, List.length_nil]
    have e : (n + 1) * (n + 1 + 3) = n * (n + 3) + 2 * n + 4 := by
      simp only [Nat.add_mul, Nat.mul_add]; omega
    rw [e]; omega

theorem spWord_le {r n : Nat} (h : n ≤ 9) : (spWord r n).length ≤ 54 := by
  have := spWord_length r n
  have h2 : n * (n + 3) ≤ 9 * 12 := Nat.mul_le_mul h (by omega)
  omega

/-- A string of given bytes. -/
def strOf (l : List UInt8) : ByteArray := ⟨l.toArray⟩
theorem strOf_toList (l : List UInt8) : (strOf l).data.toList = l := rfl
theorem strOf_size (l : List UInt8) : (strOf l).size = l.length := by simp [strOf, ByteArray.size]
theorem strOf_append (a b : List UInt8) : strOf a ++ strOf b = strOf (a ++ b) := by
  apply ByteArray.ext
  rw [ByteArray.data_append]
  simp [strOf]
end Go.Proofs.TW
