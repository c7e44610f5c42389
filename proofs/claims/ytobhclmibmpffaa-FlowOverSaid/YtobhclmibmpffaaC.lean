/- flow.Check stands in its own text. No conditions. -/
import Derived.Test.YtobhclmibmpffaaB
import Derived.Test.YtobhclmibmpffaaCheck2
