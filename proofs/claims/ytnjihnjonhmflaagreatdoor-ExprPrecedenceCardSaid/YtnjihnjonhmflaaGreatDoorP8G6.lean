/- Closed runs of the parser, each by itself. -/
import Derived.Test.YtnjihnjonhmflaaGreatDoorP8D
set_option linter.all false
namespace Go.TM.P8
open Go Go.TM Go.Proofs
set_option maxRecDepth 1000000
theorem g9_0 : ∀ e ∈ G 9 0, TrueM E e := okM_t kok _ (by kernel_rfl)
theorem g9_12 : ∀ e ∈ G 9 12, TrueM E e := okM_t kok _ (by kernel_rfl)
theorem g10_0 : ∀ e ∈ G 10 0, TrueM E e := okM_t kok _ (by kernel_rfl)
end Go.TM.P8
