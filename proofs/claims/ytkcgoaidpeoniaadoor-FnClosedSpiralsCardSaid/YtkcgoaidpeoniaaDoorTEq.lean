/- '==' on zero turtles. -/
import Derived.Test.YtkcgoaidpeoniaaDoorKit
namespace Go.Proofs.YtkcgoaidpeoniaaDoor
open Go.RowKit
theorem turtleEq0 (w : World) : (Op.equalIn 10000 28 (.agg #[.int .i64 0, .int .i64 0, .int .i64 0]) (.agg #[.int .i64 0, .int .i64 0, .int .i64 0])).run Tryd.prog w = .ok true w := by kernel_rfl
end Go.Proofs.YtkcgoaidpeoniaaDoor
