/- What the closings import. Own work (session 2). -/
import Derived.Test.YthhghcekcgonnaaS3R
import Derived.Test.YthhghcekcgonnaaS3Q
import Derived.Test.YthhghcekcgonnaaS3T
