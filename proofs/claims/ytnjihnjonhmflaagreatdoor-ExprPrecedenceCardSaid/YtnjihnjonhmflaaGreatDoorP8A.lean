/- The chapter's examples hold: the run of the whole call, in the kernel. -/
import Derived.Test.YtnjihnjonhmflaaGreatDoorP8D
set_option linter.all false
namespace Go.TM.P8
open Go Go.TM Go.Proofs
set_option maxRecDepth 1000000
theorem tAw : ∀ e ∈ [(⟨0, 5, [], .b true⟩ : KM)], TrueM E e := okM_t kok _ (by kernel_rfl)
end Go.TM.P8
