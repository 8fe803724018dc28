/- What is known of calls so far. -/
import Derived.Test.YtckfkjeonnnemaaGreatDoorT9KM20
import Derived.Test.YtckfkjeonnnemaaGreatDoorT9KS1
set_option linter.all false
namespace Go.TM.K9
open Go Go.TM
set_option linter.unusedVariables false
set_option maxRecDepth 1000000
noncomputable def KS2 : KE := (useM KS1 64 M2_0)
theorem kokS2 : KEOk KS2 E := (useM_ok kokS1 tM2_0)
end Go.TM.K9
