/- Each function as the abstract machine has it (own work). -/
import Derived.Test.YtancdapnpceogaaGreatS5Fa1
import Derived.Test.YtancdapnpceogaaGreatS5Fa2
import Derived.Test.YtancdapnpceogaaGreatS5Fb1
import Derived.Test.YtancdapnpceogaaGreatS5Fb2

