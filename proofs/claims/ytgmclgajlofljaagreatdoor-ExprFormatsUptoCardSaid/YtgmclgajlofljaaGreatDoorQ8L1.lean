/- Literals: closed runs of the reference's numbers, in the kernel: 65 to 128. -/
import Derived.Test.YtgmclgajlofljaaGreatDoorQ8FK
set_option linter.all false
namespace Go.TM.R8
open Go Go.TM Go.Proofs
set_option maxRecDepth 1000000
theorem en_65 : ∀ e ∈ ents 65 16, TrueM E e := okM_t kokd _ (by kernel_rfl)
theorem en_81 : ∀ e ∈ ents 81 16, TrueM E e := okM_t kokd _ (by kernel_rfl)
theorem en_97 : ∀ e ∈ ents 97 16, TrueM E e := okM_t kokd _ (by kernel_rfl)
theorem en_113 : ∀ e ∈ ents 113 16, TrueM E e := okM_t kokd _ (by kernel_rfl)
end Go.TM.R8
