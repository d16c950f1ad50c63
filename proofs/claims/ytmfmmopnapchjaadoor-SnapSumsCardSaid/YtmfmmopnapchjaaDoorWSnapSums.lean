/- The walk of SnapSums: see Yi. -/
import Derived.Test.YtmfmmopnapchjaaDoorYi
