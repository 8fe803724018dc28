/- Operators and their levels; texts of two operators, and what they are parsed to, for closed runs. -/
import Derived.Test.YtnjihnjonhmflaaGreatDoorP8X
import Derived.Test.YtnjihnjonhmflaaGreatDoorTmKm
import Derived.Test.YtnjihnjonhmflaaGreatDoorTmRun
import Derived.KernelRfl
set_option linter.all false
namespace Go.TM.P8
open Go Go.TM Go.Proofs
set_option linter.unusedVariables false
set_option linter.unusedSimpArgs false
set_option maxRecDepth 1000000
/-- The operators, length and letters as a number; their levels. -/
def sgT : List (Nat × Nat) := [(1, 43), (1, 45), (1, 42), (1, 47), (1, 37), (2, 10794), (2, 15677), (2, 15649), (3, 4013373), (3, 4013345), (1, 60), (2, 15676), (1, 62), (2, 15678), (2, 9766), (2, 31868), (1, 38), (1, 124), (1, 94), (2, 24190), (2, 15420), (2, 15934), (3, 3947580), (3, 4079166)]
def lvT : List Nat := [9, 9, 10, 10, 10, 11, 6, 6, 6, 6, 7, 7, 7, 7, 2, 1, 5, 3, 4, 4, 8, 8, 8, 8]
def lv (m : Nat) : Nat := lvT.getD m 0
def sL (m : Nat) : Nat := (sgT.getD m (0, 0)).1
def sN (m : Nat) : Nat := (sgT.getD m (0, 0)).2
def tL (m n : Nat) : Nat := 7 + sL m + sL n
def tN (m n : Nat) : Nat := 8289 + 65536 * (sN m + 256 ^ sL m * (2122272 + 16777216 * (sN n + 256 ^ sL n * 25376)))
abbrev i0 : V := .p 9223372036854775808 0
def nm (k : Nat) : V := .agg [.p 256 2, .s 1 k, .ns, .b false, .ns, i0, i0, .b false]
def oV (o : Nat) (xs : List V) : V := .agg [.p 256 o, .s 0 0, .ns, .b false, .lst 8 xs, i0, i0, .b false]
def wt (m n : Nat) : V := bif Nat.blt (lv m) (lv n) then oV (21 + m) [nm 97, oV (21 + n) [nm 98, nm 99]] else oV (21 + n) [oV (21 + m) [nm 97, nm 98], nm 99]
/-- Parse of a text; Is of its tree and itself. -/
def mP (m n : Nat) : KM := ⟨0, 8, [.s (tL m n) (tN m n), i0], .tup [wt m n, .p 9223372036854775808 (tL m n), i0]⟩
def mI (m n : Nat) : KM := ⟨0, 11, [wt m n, wt m n], .b true⟩
def G (m a : Nat) : List KM := (List.range 12).flatMap fun k => [mP m (a + k), mI m (a + k)]
def mL (m : Nat) : KM := ⟨0, 10, [.p 256 (21 + m)], .p 9223372036854775808 (lv m)⟩
def F0 : List KM := [⟨0, 7, [.s 1 97], nm 97⟩, ⟨0, 7, [.s 1 98], nm 98⟩, ⟨0, 7, [.s 1 99], nm 99⟩, ⟨0, 6, [], .lst 1 (sgT.map fun p => .s p.1 p.2)⟩] ++ (List.range 24).map mL
theorem tF0 : ∀ e ∈ F0, TrueM E e := okM_t kok F0 (by kernel_rfl)
end Go.TM.P8
