/- Calls that the closed run makes, each run by itself. -/
import Derived.Test.YtckfkjeonnnemaaGreatDoorT9KS2
import Derived.KernelRfl
set_option linter.all false
namespace Go.TM.K9
open Go Go.TM
set_option linter.unusedVariables false
set_option maxRecDepth 1000000
noncomputable def M3_0 : List KM := [⟨652969, 5, [.s 43 tx0], .b true⟩,
 ⟨906080, 5, [.s 60 tx5], .b true⟩]
theorem pM3_0 : okM KS2 M3_0 = true := by kernel_rfl
theorem tM3_0 : ∀ e ∈ M3_0, TrueM E e := okM_t kokS2 M3_0 pM3_0
end Go.TM.K9
