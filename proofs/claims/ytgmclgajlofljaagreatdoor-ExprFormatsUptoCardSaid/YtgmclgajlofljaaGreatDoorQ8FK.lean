/- Literals: closed runs of the reference's numbers, in the kernel. -/
import Derived.Test.YtgmclgajlofljaaGreatDoorR8P
import Derived.Test.YtgmclgajlofljaaGreatDoorA8X
import Derived.Test.YtgmclgajlofljaaGreatDoorTmKm
import Derived.KernelRfl
set_option linter.all false
namespace Go.TM.R8
open Go Go.TM Go.Proofs Go.TM.A8
set_option maxRecDepth 1000000
noncomputable def FTd : BT := (.node 191 K_ref03_minus (.node 167 K_ref03_DivMod (.node 141 K_ref05_Decimal (.node 140 K_ref03_FromInt .leaf .leaf) .leaf) (.node 169 K_ref03_Trim (.node 168 K_ref03_Uint .leaf .leaf) .leaf)) (.node 224 K_ref03_At (.node 194 K_ref03_Fit (.node 193 K_ref03_divide .leaf .leaf) .leaf) (.node 251 K_ref03_Cmp (.node 225 K_ref03_less .leaf .leaf) .leaf)))
noncomputable def Kd : KE := ⟨FTd, ⟨[5], omT⟩, 1000000, fun _ => none, fun _ _ => none⟩
def Fokd (f : Nat) (F : KF) : Prop := dC F.c = true ∧ E.X f = none ∧ ∃ fn, E.P.funcs[f]? = some fn ∧ toLF E.P (E.an f) fn = some F.f
theorem okd {f : Nat} {F : KF} {fn : Func} (h1 : dC F.c = true) (h0 : XR f = none) (h2 : Tryz.prog.funcs[f]? = some fn) (h3 : toLF Tryz.prog (an f) fn = some F.f) : Fokd f F := ⟨h1, h0, fn, h2, h3⟩
theorem fokd : A8.AllT Fokd FTd := (A8.allN (okd (by kernel_rfl) rfl pf_ref03_minus lf_ref03_minus) (A8.allN (okd (by kernel_rfl) rfl pf_ref03_DivMod lf_ref03_DivMod) (A8.allN (okd (by kernel_rfl) rfl pf_ref05_Decimal lf_ref05_Decimal) (A8.allN (okd (by kernel_rfl) rfl pf_ref03_FromInt lf_ref03_FromInt) A8.allL A8.allL) A8.allL) (A8.allN (okd (by kernel_rfl) rfl pf_ref03_Trim lf_ref03_Trim) (A8.allN (okd (by kernel_rfl) rfl pf_ref03_Uint lf_ref03_Uint) A8.allL A8.allL) A8.allL)) (A8.allN (okd (by kernel_rfl) rfl pf_ref03_At lf_ref03_At) (A8.allN (okd (by kernel_rfl) rfl pf_ref03_Fit lf_ref03_Fit) (A8.allN (okd (by kernel_rfl) rfl pf_ref03_divide lf_ref03_divide) A8.allL A8.allL) A8.allL) (A8.allN (okd (by kernel_rfl) rfl pf_ref03_Cmp lf_ref03_Cmp) (A8.allN (okd (by kernel_rfl) rfl pf_ref03_less lf_ref03_less) A8.allL A8.allL) A8.allL)))
theorem kokd : KEOk Kd E where
 om := by
  funext g
  show omT g = if g = 1000000000 then [5] else omT g
  split
  ·rename_i h; subst h; rfl
  ·rfl
 X := fun f g h => by cases h
 F := fun f F _ hF => A8.allT_get fokd hF
 M := fun f args v h => by cases h
noncomputable def bit12 (n : Nat) : List V := [.b (Nat.beq (Nat.mod (Nat.div n 1) 2) 1), .b (Nat.beq (Nat.mod (Nat.div n 2) 2) 1), .b (Nat.beq (Nat.mod (Nat.div n 4) 2) 1), .b (Nat.beq (Nat.mod (Nat.div n 8) 2) 1), .b (Nat.beq (Nat.mod (Nat.div n 16) 2) 1), .b (Nat.beq (Nat.mod (Nat.div n 32) 2) 1), .b (Nat.beq (Nat.mod (Nat.div n 64) 2) 1), .b (Nat.beq (Nat.mod (Nat.div n 128) 2) 1), .b (Nat.beq (Nat.mod (Nat.div n 256) 2) 1), .b (Nat.beq (Nat.mod (Nat.div n 512) 2) 1), .b (Nat.beq (Nat.mod (Nat.div n 1024) 2) 1), .b (Nat.beq (Nat.mod (Nat.div n 2048) 2) 1)]
noncomputable def decW (n : Nat) : V := @Option.rec V (fun _ => V) .u (fun v => v) (kF2 [.p 9223372036854775808 n, .p 9223372036854775808 10])
noncomputable def entA (n : Nat) : KM := ⟨0, 140, [.p 9223372036854775808 n, .p 9223372036854775808 12], .tup [.lst 1 (bit12 n), .p 9223372036854775808 0]⟩
noncomputable def entB (n : Nat) : KM := ⟨0, 141, [.lst 1 (bit12 n)], decW n⟩
noncomputable def ents (a : Nat) (k : Nat) : List KM := @Nat.rec (fun _ => List KM) [] (fun i ih => entA (Nat.add a i) :: entB (Nat.add a i) :: ih) k
theorem e1 : ∀ e ∈ ents 1 2, TrueM E e := okM_t kokd _ (by kernel_rfl)
end Go.TM.R8
