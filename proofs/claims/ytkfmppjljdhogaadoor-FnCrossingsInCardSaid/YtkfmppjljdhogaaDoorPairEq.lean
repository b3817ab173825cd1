/- '==' on places: arrays of two integers. -/
import Derived.Test.YtkfmppjljdhogaaDoorKit
import Derived.Laws.StructEq
namespace Go.Proofs.YtkfmppjljdhogaaDoor
open Go.RowKit

section
variable {P : Program}
theorem run_equalIn_pair (w : World) (d : Nat) (t e : TypeId) (ht : P.underlying t = some (.array 2 e)) (he : P.underlying e = some (.int .i64)) (hsz : ∀ w, (sizeOf e).run P w = .ok 1 w) (a b x y : Int) :
    (Op.equalIn (d + 2) t (.agg #[.int .i64 a, .int .i64 b]) (.agg #[.int .i64 x, .int .i64 y])).run P w = .ok ((a == x) && (b == y)) w := by
  have p0 : ∀ (u v : Int) (w : World), (part e #[.int .i64 u, .int .i64 v] (0 * 1)).run P w = .ok (.int .i64 u) w := fun u v w => by simp [part, isAgg, run_underlying he]
  have p1 : ∀ (u v : Int) (w : World), (part e #[.int .i64 u, .int .i64 v] (1 * 1)).run P w = .ok (.int .i64 v) w := fun u v w => by simp [part, isAgg, run_underlying he]
  have pe : ∀ (u v : Int) (w : World), (Op.equalIn (d + 1) e (.int .i64 u) (.int .i64 v)).run P w = .ok (u == v) w := fun u v w => run_equalIn_int w d e .i64 .i64 u v he
  rw [Op.equalIn]
  simp only [Sem.run_bind, run_underlying ht, Result.andThen_ok, hsz, Std.Legacy.Range.forIn_eq_forIn_range', Std.Legacy.Range.size, Nat.sub_zero, Nat.add_sub_cancel, Nat.div_one]
  simp only [show List.range' 0 2 1 = [0, 1] from rfl, List.forIn_cons, List.forIn_nil, Sem.run_bind, p0, p1, pe, Result.andThen_ok]
  cases h0 : (a == x)
  · simp
  · simp only [Bool.not_true, Bool.false_eq_true, if_false, Sem.run_pure, Result.andThen_ok, Bool.true_and, p1, pe, Sem.run_bind]
    cases h1 : (b == y) <;> simp
end

theorem pairEq (a b x y : Int) (w : World) : (Op.equalIn 10000 38 (.agg #[.int .i64 a, .int .i64 b]) (.agg #[.int .i64 x, .int .i64 y])).run Tryd.prog w = .ok ((a == x) && (b == y)) w :=
  run_equalIn_pair w 9998 38 3 Tryd.underlying38 Tryd.underlying3 (fun _ => by kernel_rfl) a b x y
theorem placeEq (a b x y : Int) (w : World) : (Op.equalIn 10000 50 (.agg #[.int .i64 a, .int .i64 b]) (.agg #[.int .i64 x, .int .i64 y])).run Tryd.prog w = .ok ((a == x) && (b == y)) w :=
  run_equalIn_pair w 9998 50 3 Tryd.underlying50 Tryd.underlying3 (fun _ => by kernel_rfl) a b x y
end Go.Proofs.YtkfmppjljdhogaaDoor
