/- loftblockref19.Valid. -/
import Derived.Test.YtcdkhlndohokcaaGreatDoorGrid
namespace Go.Proofs.YtcdkhlndohokcaaGreatDoor
open Go.RowKit

end Go.Proofs.YtcdkhlndohokcaaGreatDoor
