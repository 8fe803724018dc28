/- Calls that the closed run makes, each run by itself. -/
import Derived.Test.YtnjihnjonhmflaaGreatDoorT8KS1
import Derived.KernelRfl
set_option linter.all false
namespace Go.TM.K8
open Go Go.TM
set_option linter.unusedVariables false
set_option maxRecDepth 1000000
noncomputable def M2_3 : List KM := [⟨574897, 8, [.s 128 tx0, .p 9223372036854775808 0], .tup [.agg [.p 256 0, .s 0 0, .ns, .b false, .ns, .p 9223372036854775808 0, .p 9223372036854775808 0, .b false], .p 9223372036854775808 0, .p 9223372036854775808 5]⟩]
theorem pM2_3 : okM KS1 M2_3 = true := by kernel_rfl
theorem tM2_3 : ∀ e ∈ M2_3, TrueM E e := okM_t kokS1 M2_3 pM2_3
noncomputable def M2_4 : List KM := [⟨740529, 8, [.s 127 tx1, .p 9223372036854775808 0], .tup [.agg [.p 256 0, .s 0 0, .ns, .b false, .ns, .p 9223372036854775808 0, .p 9223372036854775808 0, .b false], .p 9223372036854775808 0, .p 9223372036854775808 4]⟩]
theorem pM2_4 : okM KS1 M2_4 = true := by kernel_rfl
theorem tM2_4 : ∀ e ∈ M2_4, TrueM E e := okM_t kokS1 M2_4 pM2_4
noncomputable def M2_5 : List KM := [⟨818807, 8, [.s 129 tx2, .p 9223372036854775808 0], .tup [.agg [.p 256 0, .s 0 0, .ns, .b false, .ns, .p 9223372036854775808 0, .p 9223372036854775808 0, .b false], .p 9223372036854775808 0, .p 9223372036854775808 5]⟩]
theorem pM2_5 : okM KS1 M2_5 = true := by kernel_rfl
theorem tM2_5 : ∀ e ∈ M2_5, TrueM E e := okM_t kokS1 M2_5 pM2_5
end Go.TM.K8
