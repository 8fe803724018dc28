/- Closed runs of the parser, each by itself. -/
import Derived.Test.YtnjihnjonhmflaaGreatDoorP8D
set_option linter.all false
namespace Go.TM.P8
open Go Go.TM Go.Proofs
set_option maxRecDepth 1000000
theorem g7_12 : ∀ e ∈ G 7 12, TrueM E e := okM_t kok _ (by kernel_rfl)
theorem g8_0 : ∀ e ∈ G 8 0, TrueM E e := okM_t kok _ (by kernel_rfl)
theorem g8_12 : ∀ e ∈ G 8 12, TrueM E e := okM_t kok _ (by kernel_rfl)
end Go.TM.P8
