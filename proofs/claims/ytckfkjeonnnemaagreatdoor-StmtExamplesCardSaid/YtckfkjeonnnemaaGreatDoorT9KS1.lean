/- What is known of calls so far. -/
import Derived.Test.YtckfkjeonnnemaaGreatDoorT9KM10
import Derived.Test.YtckfkjeonnnemaaGreatDoorT9KM11
import Derived.Test.YtckfkjeonnnemaaGreatDoorT9KM12
set_option linter.all false
namespace Go.TM.K9
open Go Go.TM
set_option linter.unusedVariables false
set_option maxRecDepth 1000000
noncomputable def KS1 : KE := (useM (useM (useM (useM (useM (useM (useM (useM K0 8224 M1_0) 32 M1_1) 8224 M1_2) 544 M1_3) 4128 M1_4) 4704 M1_5) 672 M1_6) 160 M1_7)
theorem kokS1 : KEOk KS1 E := (useM_ok (useM_ok (useM_ok (useM_ok (useM_ok (useM_ok (useM_ok (useM_ok kok tM1_0) tM1_1) tM1_2) tM1_3) tM1_4) tM1_5) tM1_6) tM1_7)
end Go.TM.K9
