/- Plain laws: paths and climbs. -/
import Derived.Test.YtoceopdoedmgoaaPMerkP
import Derived.Test.YtoceopdoedmgoaaPMerkC
