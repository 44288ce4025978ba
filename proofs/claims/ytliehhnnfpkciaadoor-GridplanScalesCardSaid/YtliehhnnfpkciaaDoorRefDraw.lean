/- loftblockref33.Draw: the reference's drawing of the plan. -/
import Derived.Test.YtliehhnnfpkciaaDoorPicLaw
namespace Go.Proofs.YtliehhnnfpkciaaDoor
open Go.RowKit

end Go.Proofs.YtliehhnnfpkciaaDoor
