/- flow.Check stands in its own text. No conditions. -/
import Derived.Test.YtobhclmibmpffaaDoorB
import Derived.Test.YtobhclmibmpffaaDoorCheck2
