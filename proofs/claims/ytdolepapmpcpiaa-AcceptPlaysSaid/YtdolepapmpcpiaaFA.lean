/- All printed parts together. -/
import Derived.Test.YtdolepapmpcpiaaF0
import Derived.Test.YtdolepapmpcpiaaF1
import Derived.Test.YtdolepapmpcpiaaF2
import Derived.Test.YtdolepapmpcpiaaF3
import Derived.Test.YtdolepapmpcpiaaF4
import Derived.Test.YtdolepapmpcpiaaF5
import Derived.Test.YtdolepapmpcpiaaF6
