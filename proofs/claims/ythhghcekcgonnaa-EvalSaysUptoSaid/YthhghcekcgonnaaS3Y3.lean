/- What EvalSays' closing imports. Own work (session 2). -/
import Derived.Test.YthhghcekcgonnaaS3R
import Derived.Test.YthhghcekcgonnaaS3Y2
