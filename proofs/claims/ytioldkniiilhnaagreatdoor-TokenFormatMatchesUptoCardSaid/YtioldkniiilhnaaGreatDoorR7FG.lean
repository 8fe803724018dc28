/- Literals: the character of a bit. -/
import Derived.Test.YtioldkniiilhnaaGreatDoorR7FD
set_option linter.all false
namespace Go.TM.R7
open Go Go.TM Go.Proofs Go.TM.A7
set_option linter.unusedVariables false
set_option linter.unusedSimpArgs false
attribute [-simp] Int.natCast_add Int.natCast_mul List.drop_one
theorem rX_iaddrA {call : CallF} {om : FuncId → List Nat} {L : Nat} {dd : Option Nat} {s : Slots} {S : Store} {len sz : Nat} {x y : Operand} : evX call om L dd s S (.iaddrA len sz x y) = liftX S (two (iaddrAR len sz) (ev s x) (ev s y)) := by
 simp only [evX]
 cases ev s x with
 | none => rfl
 | some u => cases ev s y with
  | none => rfl
  | some v =>
   simp only [two]
   cases iaddrAR len sz u v <;> rfl
def gch : Nat → Nat
 | 0 => 48
 | 1 => 49
 | 2 => 120
 | _ => 122
theorem hex0 : idxST (.sc (str [48, 49, 50, 51, 52, 53, 54, 55, 56, 57, 97, 98, 99, 100, 101, 102])) (.sc (.int .i64 0)) = some (.sc (.int .u8 48)) := rfl
theorem hex1 : idxST (.sc (str [48, 49, 50, 51, 52, 53, 54, 55, 56, 57, 97, 98, 99, 100, 101, 102])) (.sc (.int .i64 1)) = some (.sc (.int .u8 49)) := rfl
theorem ia0 (k : IntKind) (l : Loc) : iaddrAR 4 1 (.ptr l 0) (.sc (.int k 0)) = some (.ptr l 0) := rfl
theorem ia1 (k : IntKind) (l : Loc) : iaddrAR 4 1 (.ptr l 0) (.sc (.int k 1)) = some (.ptr l 1) := rfl
theorem ia2 (k : IntKind) (l : Loc) : iaddrAR 4 1 (.ptr l 0) (.sc (.int k 2)) = some (.ptr l 2) := rfl
theorem ia3 (k : IntKind) (l : Loc) : iaddrAR 4 1 (.ptr l 0) (.sc (.int k 3)) = some (.ptr l 3) := rfl
theorem and0 : andI .i64 0 15 = 0 := rfl
theorem and1 : andI .i64 1 15 = 1 := rfl
theorem shl10 : binT .shl (.sc (.int .i64 1)) (.sc (.int .i64 0)) = some (.sc (.int .i64 1)) := rfl
theorem or01 : orI .i64 0 1 = 1 := rfl
attribute [local simp] rX_iaddrA ia0 ia1 ia2 ia3 hex0 hex1 and0 and1 shl10 or01
theorem c_group0 : callF E 0 f_literal_group [.lst 1 [.sc (.int .u8 0)]] emp = some (.sc (.int .u8 48), emp) := by
 (refine callF_light rfl pf_literal_group lf_literal_group (by simp [K_literal_group]) ?_; rw [evF_R, K_literal_group])
 simp (disch := omega) [*]
 (rw [Lp_eq]; rw (occs := .pos [1]) [K_literal_group_b0])
 simp (disch := omega) [*]
 (rw [Lp_eq]; rw (occs := .pos [1]) [K_literal_group_b0])
 simp (disch := omega) [*]
theorem c_group1 : callF E 0 f_literal_group [.lst 1 [.sc (.int .u8 1)]] emp = some (.sc (.int .u8 49), emp) := by
 (refine callF_light rfl pf_literal_group lf_literal_group (by simp [K_literal_group]) ?_; rw [evF_R, K_literal_group])
 simp (disch := omega) [*]
 (rw [Lp_eq]; rw (occs := .pos [1]) [K_literal_group_b0])
 simp (disch := omega) [*]
 (rw [Lp_eq]; rw (occs := .pos [1]) [K_literal_group_b0])
 simp (disch := omega) [*]
theorem c_group2 : callF E 0 f_literal_group [.lst 1 [.sc (.int .u8 2)]] emp = some (.sc (.int .u8 120), emp) := by
 (refine callF_light rfl pf_literal_group lf_literal_group (by simp [K_literal_group]) ?_; rw [evF_R, K_literal_group])
 simp (disch := omega) [*]
 (rw [Lp_eq]; rw (occs := .pos [1]) [K_literal_group_b0])
 simp (disch := omega) [*]
 (rw [Lp_eq]; rw (occs := .pos [1]) [K_literal_group_b0])
 simp (disch := omega) [*]
theorem c_group3 : callF E 0 f_literal_group [.lst 1 [.sc (.int .u8 3)]] emp = some (.sc (.int .u8 122), emp) := by
 (refine callF_light rfl pf_literal_group lf_literal_group (by simp [K_literal_group]) ?_; rw [evF_R, K_literal_group])
 simp (disch := omega) [*]
 (rw [Lp_eq]; rw (occs := .pos [1]) [K_literal_group_b0])
 simp (disch := omega) [*]
 (rw [Lp_eq]; rw (occs := .pos [1]) [K_literal_group_b0])
 simp (disch := omega) [*]
theorem c_rgroup0 : callF E 0 f_ref05_group [.lst 1 [.sc (.int .u8 0)]] emp = some (.sc (.int .u8 48), emp) := by
 (refine callF_light rfl pf_ref05_group lf_ref05_group (by simp [K_ref05_group]) ?_; rw [evF_R, K_ref05_group])
 simp (disch := omega) [*]
 (rw [Lp_eq]; rw (occs := .pos [1]) [K_ref05_group_b0])
 simp (disch := omega) [*]
 (rw [Lp_eq]; rw (occs := .pos [1]) [K_ref05_group_b0])
 simp (disch := omega) [*]
theorem c_rgroup1 : callF E 0 f_ref05_group [.lst 1 [.sc (.int .u8 1)]] emp = some (.sc (.int .u8 49), emp) := by
 (refine callF_light rfl pf_ref05_group lf_ref05_group (by simp [K_ref05_group]) ?_; rw [evF_R, K_ref05_group])
 simp (disch := omega) [*]
 (rw [Lp_eq]; rw (occs := .pos [1]) [K_ref05_group_b0])
 simp (disch := omega) [*]
 (rw [Lp_eq]; rw (occs := .pos [1]) [K_ref05_group_b0])
 simp (disch := omega) [*]
theorem c_rgroup2 : callF E 0 f_ref05_group [.lst 1 [.sc (.int .u8 2)]] emp = some (.sc (.int .u8 120), emp) := by
 (refine callF_light rfl pf_ref05_group lf_ref05_group (by simp [K_ref05_group]) ?_; rw [evF_R, K_ref05_group])
 simp (disch := omega) [*]
 (rw [Lp_eq]; rw (occs := .pos [1]) [K_ref05_group_b0])
 simp (disch := omega) [*]
 (rw [Lp_eq]; rw (occs := .pos [1]) [K_ref05_group_b0])
 simp (disch := omega) [*]
theorem c_rgroup3 : callF E 0 f_ref05_group [.lst 1 [.sc (.int .u8 3)]] emp = some (.sc (.int .u8 122), emp) := by
 (refine callF_light rfl pf_ref05_group lf_ref05_group (by simp [K_ref05_group]) ?_; rw [evF_R, K_ref05_group])
 simp (disch := omega) [*]
 (rw [Lp_eq]; rw (occs := .pos [1]) [K_ref05_group_b0])
 simp (disch := omega) [*]
 (rw [Lp_eq]; rw (occs := .pos [1]) [K_ref05_group_b0])
 simp (disch := omega) [*]
theorem c_group (x : Nat) (h : x ≤ 3) : callF E 0 f_literal_group [.lst 1 [.sc (.int .u8 (x : Int))]] emp = some (.sc (.int .u8 (gch x : Int)), emp) := by
 rcases (show x = 0 ∨ x = 1 ∨ x = 2 ∨ x = 3 by omega) with rfl | rfl | rfl | rfl
 ·exact c_group0
 ·exact c_group1
 ·exact c_group2
 ·exact c_group3
theorem c_rgroup (x : Nat) (h : x ≤ 3) : callF E 0 f_ref05_group [.lst 1 [.sc (.int .u8 (x : Int))]] emp = some (.sc (.int .u8 (gch x : Int)), emp) := by
 rcases (show x = 0 ∨ x = 1 ∨ x = 2 ∨ x = 3 by omega) with rfl | rfl | rfl | rfl
 ·exact c_rgroup0
 ·exact c_rgroup1
 ·exact c_rgroup2
 ·exact c_rgroup3
end Go.TM.R7
