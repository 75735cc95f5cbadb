/- What EvalOver's closing imports. Own work (session 2). -/
import Derived.Test.YthhghcekcgonnaaS3R
import Derived.Test.YthhghcekcgonnaaS3O
