/- Handles: see Hb, Hr. -/
import Derived.Test.YtohodbpjcbjifaaGreatDoorHb
import Derived.Test.YtohodbpjcbjifaaGreatDoorHr
