/- Calls that the closed run makes, each run by itself. -/
import Derived.Test.YtckfkjeonnnemaaGreatDoorT9KS3
import Derived.KernelRfl
set_option linter.all false
namespace Go.TM.K9
open Go Go.TM
set_option linter.unusedVariables false
set_option maxRecDepth 1000000
noncomputable def M4_0 : List KM := [⟨0, 4, [], .b true⟩]
theorem pM4_0 : okM KS3 M4_0 = true := by kernel_rfl
theorem tM4_0 : ∀ e ∈ M4_0, TrueM E e := okM_t kokS3 M4_0 pM4_0
end Go.TM.K9
