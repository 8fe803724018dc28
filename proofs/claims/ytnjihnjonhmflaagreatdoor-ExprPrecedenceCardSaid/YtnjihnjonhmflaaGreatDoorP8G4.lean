/- Closed runs of the parser, each by itself. -/
import Derived.Test.YtnjihnjonhmflaaGreatDoorP8D
set_option linter.all false
namespace Go.TM.P8
open Go Go.TM Go.Proofs
set_option maxRecDepth 1000000
theorem g6_0 : ∀ e ∈ G 6 0, TrueM E e := okM_t kok _ (by kernel_rfl)
theorem g6_12 : ∀ e ∈ G 6 12, TrueM E e := okM_t kok _ (by kernel_rfl)
theorem g7_0 : ∀ e ∈ G 7 0, TrueM E e := okM_t kok _ (by kernel_rfl)
end Go.TM.P8
