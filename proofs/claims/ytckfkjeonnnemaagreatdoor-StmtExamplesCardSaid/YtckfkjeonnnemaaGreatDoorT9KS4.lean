/- What is known of calls so far. -/
import Derived.Test.YtckfkjeonnnemaaGreatDoorT9KM40
import Derived.Test.YtckfkjeonnnemaaGreatDoorT9KS3
set_option linter.all false
namespace Go.TM.K9
open Go Go.TM
set_option linter.unusedVariables false
set_option maxRecDepth 1000000
noncomputable def KS4 : KE := (useM KS3 16 M4_0)
theorem kokS4 : KEOk KS4 E := (useM_ok kokS3 tM4_0)
end Go.TM.K9
