/- What EvalKinds' closing imports. Own work (session 2). -/
import Derived.Test.YthhghcekcgonnaaS3KL
import Derived.Test.YthhghcekcgonnaaS3R
