/- Closed runs of the parser, each by itself. -/
import Derived.Test.YtnjihnjonhmflaaGreatDoorP8D
set_option linter.all false
namespace Go.TM.P8
open Go Go.TM Go.Proofs
set_option maxRecDepth 1000000
theorem g19_12 : ∀ e ∈ G 19 12, TrueM E e := okM_t kok _ (by kernel_rfl)
theorem g20_0 : ∀ e ∈ G 20 0, TrueM E e := okM_t kok _ (by kernel_rfl)
theorem g20_12 : ∀ e ∈ G 20 12, TrueM E e := okM_t kok _ (by kernel_rfl)
end Go.TM.P8
