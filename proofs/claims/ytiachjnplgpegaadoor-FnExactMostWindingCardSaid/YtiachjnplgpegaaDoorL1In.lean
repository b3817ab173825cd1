/- Contract: l1In. -/
import Derived.Test.YtiachjnplgpegaaDoorKit
namespace Go.Proofs.YtiachjnplgpegaaDoor
open Go.RowKit

end Go.Proofs.YtiachjnplgpegaaDoor
