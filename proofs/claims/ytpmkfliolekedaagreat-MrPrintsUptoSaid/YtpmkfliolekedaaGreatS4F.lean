/- Each function as the abstract machine has it (own work). -/
import Derived.Test.YtpmkfliolekedaaGreatS4Fa
import Derived.Test.YtpmkfliolekedaaGreatS4Fb
