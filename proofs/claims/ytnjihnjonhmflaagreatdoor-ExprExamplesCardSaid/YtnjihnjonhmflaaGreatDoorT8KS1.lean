/- What is known of calls so far. -/
import Derived.Test.YtnjihnjonhmflaaGreatDoorT8KM10
import Derived.Test.YtnjihnjonhmflaaGreatDoorT8KM11
import Derived.Test.YtnjihnjonhmflaaGreatDoorT8KM12
import Derived.Test.YtnjihnjonhmflaaGreatDoorT8KM13
set_option linter.all false
namespace Go.TM.K8
open Go Go.TM
set_option linter.unusedVariables false
set_option maxRecDepth 1000000
noncomputable def KS1 : KE := (useM (useM (useM (useM (useM (useM (useM (useM (useM (useM (useM (useM (useM K0 73728 M1_0) 8448 M1_1) 73984 M1_2) 8192 M1_3) 2305843009213767936 M1_4) 2305843009213693952 M1_5) 2305843009213693952 M1_6) 2305843009213693952 M1_7) 6917529027641081856 M1_8) 4611686018427387904 M1_9) 4611686018427387904 M1_10) 13835058055282163712 M1_11) 9223372036854775808 M1_12)
theorem kokS1 : KEOk KS1 E := (useM_ok (useM_ok (useM_ok (useM_ok (useM_ok (useM_ok (useM_ok (useM_ok (useM_ok (useM_ok (useM_ok (useM_ok (useM_ok kok tM1_0) tM1_1) tM1_2) tM1_3) tM1_4) tM1_5) tM1_6) tM1_7) tM1_8) tM1_9) tM1_10) tM1_11) tM1_12)
end Go.TM.K8
