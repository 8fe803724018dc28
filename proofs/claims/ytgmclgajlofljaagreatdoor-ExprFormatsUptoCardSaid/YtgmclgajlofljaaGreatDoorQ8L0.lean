/- Literals: closed runs of the reference's numbers, in the kernel: 1 to 64. -/
import Derived.Test.YtgmclgajlofljaaGreatDoorQ8FK
set_option linter.all false
namespace Go.TM.R8
open Go Go.TM Go.Proofs
set_option maxRecDepth 1000000
theorem en_1 : ∀ e ∈ ents 1 16, TrueM E e := okM_t kokd _ (by kernel_rfl)
theorem en_17 : ∀ e ∈ ents 17 16, TrueM E e := okM_t kokd _ (by kernel_rfl)
theorem en_33 : ∀ e ∈ ents 33 16, TrueM E e := okM_t kokd _ (by kernel_rfl)
theorem en_49 : ∀ e ∈ ents 49 16, TrueM E e := okM_t kokd _ (by kernel_rfl)
end Go.TM.R8
