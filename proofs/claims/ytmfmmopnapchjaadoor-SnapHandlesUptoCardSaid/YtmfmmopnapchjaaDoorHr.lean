/- What Valid, Kind, Slot, Gen, Next of the reference of layer 2 return, at every handle. -/
import Derived.Test.YtmfmmopnapchjaaDoorHb
namespace Go.Proofs.YtmfmmopnapchjaaDoor
open Go Go.RowKit Go.Shelf Go.Sort
set_option maxHeartbeats 400000
set_option linter.unusedVariables false
end Go.Proofs.YtmfmmopnapchjaaDoor
