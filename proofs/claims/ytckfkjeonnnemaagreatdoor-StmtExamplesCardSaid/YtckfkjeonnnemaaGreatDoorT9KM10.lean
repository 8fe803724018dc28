/- Calls that the closed run makes, each run by itself. -/
import Derived.Test.YtckfkjeonnnemaaGreatDoorT9KT
import Derived.KernelRfl
set_option linter.all false
namespace Go.TM.K9
open Go Go.TM
set_option linter.unusedVariables false
set_option maxRecDepth 1000000
noncomputable def M1_0 : List KM := [⟨463006, 5, [.s 42 tx1], .b true⟩,
 ⟨759076554439805029, 13, [.s 27 tx2, .agg [.p 256 3, .s 0 0, .s 0 0, .p 256 2, .s 1 97, .ns, .b false, .ns, .p 9223372036854775808 0, .p 9223372036854775808 0, .b false, .p 256 0, .s 0 0, .ns, .b false, .ns, .p 9223372036854775808 0, .p 9223372036854775808 0, .b false, .p 256 0, .s 0 0, .ns, .b false, .ns, .p 9223372036854775808 0, .p 9223372036854775808 0, .b false, .p 9223372036854775808 0, .ns, .ns, .lst 33 [.agg [.p 256 3, .s 0 0, .s 0 0, .p 256 2, .s 1 98, .ns, .b false, .ns, .p 9223372036854775808 0, .p 9223372036854775808 0, .b false, .p 256 0, .s 0 0, .ns, .b false, .ns, .p 9223372036854775808 0, .p 9223372036854775808 0, .b false, .p 256 0, .s 0 0, .ns, .b false, .ns, .p 9223372036854775808 0, .p 9223372036854775808 0, .b false, .p 9223372036854775808 0, .ns, .ns, .lst 33 [.agg [.p 256 11, .s 0 0, .s 0 0, .p 256 0, .s 0 0, .ns, .b false, .ns, .p 9223372036854775808 0, .p 9223372036854775808 0, .b false, .p 256 2, .s 1 120, .ns, .b false, .ns, .p 9223372036854775808 0, .p 9223372036854775808 0, .b false, .p 256 2, .s 1 112, .ns, .b false, .ns, .p 9223372036854775808 0, .p 9223372036854775808 0, .b false, .m 9223372036854775808 0, .ns, .ns, .ns, .ns, .ns], .agg [.p 256 12, .s 0 0, .s 0 0, .p 256 0, .s 0 0, .ns, .b false, .ns, .p 9223372036854775808 0, .p 9223372036854775808 0, .b false, .p 256 2, .s 1 121, .ns, .b false, .ns, .p 9223372036854775808 0, .p 9223372036854775808 0, .b false, .p 256 2, .s 1 122, .ns, .b false, .ns, .p 9223372036854775808 0, .p 9223372036854775808 0, .b false, .p 9223372036854775808 2, .ns, .ns, .ns, .ns, .ns]], .ns, .ns]], .ns, .ns], .s 36 tx3], .b true⟩]
theorem pM1_0 : okM K0 M1_0 = true := by kernel_rfl
theorem tM1_0 : ∀ e ∈ M1_0, TrueM E e := okM_t kok M1_0 pM1_0
noncomputable def M1_1 : List KM := [⟨181519, 5, [.s 37 tx6], .b true⟩,
 ⟨498498, 5, [.s 32 tx7], .b true⟩]
theorem pM1_1 : okM K0 M1_1 = true := by kernel_rfl
theorem tM1_1 : ∀ e ∈ M1_1, TrueM E e := okM_t kok M1_1 pM1_1
noncomputable def M1_2 : List KM := [⟨504469026801044660, 13, [.s 45 tx4, .agg [.p 256 14, .s 0 0, .s 0 0, .p 256 0, .s 0 0, .ns, .b false, .ns, .p 9223372036854775808 0, .p 9223372036854775808 0, .b false, .p 256 0, .s 0 0, .ns, .b false, .ns, .p 9223372036854775808 0, .p 9223372036854775808 0, .b false, .p 256 0, .s 0 0, .ns, .b false, .ns, .p 9223372036854775808 0, .p 9223372036854775808 0, .b false, .p 9223372036854775808 0, .lst 9 [.agg [.p 256 1, .p 256 2, .s 3 7040099, .ns, .b false, .ns, .p 9223372036854775808 0, .p 9223372036854775808 0, .b false], .agg [.p 256 2, .p 256 2, .s 1 114, .ns, .b false, .ns, .p 9223372036854775808 0, .p 9223372036854775808 0, .b false]], .ns, .lst 33 [.agg [.p 256 2, .s 0 0, .s 0 0, .p 256 0, .s 0 0, .ns, .b false, .ns, .p 9223372036854775808 0, .p 9223372036854775808 0, .b false, .p 256 0, .s 0 0, .ns, .b false, .ns, .p 9223372036854775808 0, .p 9223372036854775808 0, .b false, .p 256 0, .s 0 0, .ns, .b false, .ns, .p 9223372036854775808 0, .p 9223372036854775808 0, .b false, .p 9223372036854775808 0, .ns, .ns, .lst 33 [.agg [.p 256 12, .s 0 0, .s 0 0, .p 256 0, .s 0 0, .ns, .b false, .ns, .p 9223372036854775808 0, .p 9223372036854775808 0, .b false, .p 256 2, .s 1 113, .ns, .b false, .ns, .p 9223372036854775808 0, .p 9223372036854775808 0, .b false, .p 256 2, .s 1 100, .ns, .b false, .ns, .p 9223372036854775808 0, .p 9223372036854775808 0, .b false, .m 9223372036854775808 0, .ns, .ns, .ns, .ns, .ns]], .ns, .ns]], .ns, .ns], .s 45 tx4], .b true⟩,
 ⟨78540, 5, [.s 30 tx8], .b true⟩,
 ⟨486144, 5, [.s 11 71790009973017602528861025], .b true⟩]
theorem pM1_2 : okM K0 M1_2 = true := by kernel_rfl
theorem tM1_2 : ∀ e ∈ M1_2, TrueM E e := okM_t kok M1_2 pM1_2
end Go.TM.K9
