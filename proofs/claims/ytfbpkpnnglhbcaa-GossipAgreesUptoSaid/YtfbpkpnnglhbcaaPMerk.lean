/- Plain laws: paths and climbs. -/
import Derived.Test.YtfbpkpnnglhbcaaPMerkP
import Derived.Test.YtfbpkpnnglhbcaaPMerkC
