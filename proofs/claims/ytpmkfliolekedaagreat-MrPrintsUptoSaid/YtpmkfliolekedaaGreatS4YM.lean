/- What MrPrints' closing imports. Own work. -/
import Derived.Test.YtpmkfliolekedaaGreatS4Y
import Derived.Test.YtpmkfliolekedaaGreatS4Z6
