/- What is known of calls so far. -/
import Derived.Test.YtckfkjeonnnemaaGreatDoorT9KM30
import Derived.Test.YtckfkjeonnnemaaGreatDoorT9KS2
set_option linter.all false
namespace Go.TM.K9
open Go Go.TM
set_option linter.unusedVariables false
set_option maxRecDepth 1000000
noncomputable def KS3 : KE := (useM KS2 32 M3_0)
theorem kokS3 : KEOk KS3 E := (useM_ok kokS2 tM3_0)
end Go.TM.K9
