/- Functions that look a text up in a table: walked, one entry after the other. -/
import Derived.Test.YtckfkjeonnnemaaGreatDoorProg
import Derived.Test.YtckfkjeonnnemaaGreatDoorTmKx
import Derived.WalkKit
import Derived.KernelRfl
set_option linter.all false
namespace Go.TM.K9
open Go Go.TM Go.Proofs Go.RowKit

set_option maxRecDepth 100000 in
set_option maxHeartbeats 2000000 in
theorem w_un0 (w : World) : Calls Tryz.prog 149 #[.int .u8 11] w fun e w' => e = .returned (.string ⟨#[43]⟩) ∧ w' = w := by
 have h : ∀ w, (Instr.index 185 (.agg #[.string ⟨#[43]⟩, .string ⟨#[45]⟩, .string ⟨#[33]⟩, .string ⟨#[126]⟩, .string ⟨#[38]⟩, .string ⟨#[124]⟩, .string ⟨#[94]⟩, .string ⟨#[126, 38]⟩, .string ⟨#[126, 124]⟩, .string ⟨#[126, 94]⟩]) (.int .u8 0)).run Tryz.prog w = .ok (.string ⟨#[43]⟩) w := fun w => by kernel_rfl
 go_enter Tryz.func149, Tryz.ntmps149
 go_wp2
 go_ret
 exact ⟨rfl, rfl⟩
set_option maxRecDepth 100000 in
set_option maxHeartbeats 2000000 in
theorem w_un1 (w : World) : Calls Tryz.prog 149 #[.int .u8 12] w fun e w' => e = .returned (.string ⟨#[45]⟩) ∧ w' = w := by
 have h : ∀ w, (Instr.index 185 (.agg #[.string ⟨#[43]⟩, .string ⟨#[45]⟩, .string ⟨#[33]⟩, .string ⟨#[126]⟩, .string ⟨#[38]⟩, .string ⟨#[124]⟩, .string ⟨#[94]⟩, .string ⟨#[126, 38]⟩, .string ⟨#[126, 124]⟩, .string ⟨#[126, 94]⟩]) (.int .u8 1)).run Tryz.prog w = .ok (.string ⟨#[45]⟩) w := fun w => by kernel_rfl
 go_enter Tryz.func149, Tryz.ntmps149
 go_wp2
 go_ret
 exact ⟨rfl, rfl⟩
set_option maxRecDepth 100000 in
set_option maxHeartbeats 2000000 in
theorem w_un2 (w : World) : Calls Tryz.prog 149 #[.int .u8 13] w fun e w' => e = .returned (.string ⟨#[33]⟩) ∧ w' = w := by
 have h : ∀ w, (Instr.index 185 (.agg #[.string ⟨#[43]⟩, .string ⟨#[45]⟩, .string ⟨#[33]⟩, .string ⟨#[126]⟩, .string ⟨#[38]⟩, .string ⟨#[124]⟩, .string ⟨#[94]⟩, .string ⟨#[126, 38]⟩, .string ⟨#[126, 124]⟩, .string ⟨#[126, 94]⟩]) (.int .u8 2)).run Tryz.prog w = .ok (.string ⟨#[33]⟩) w := fun w => by kernel_rfl
 go_enter Tryz.func149, Tryz.ntmps149
 go_wp2
 go_ret
 exact ⟨rfl, rfl⟩
set_option maxRecDepth 100000 in
set_option maxHeartbeats 2000000 in
theorem w_un3 (w : World) : Calls Tryz.prog 149 #[.int .u8 14] w fun e w' => e = .returned (.string ⟨#[126]⟩) ∧ w' = w := by
 have h : ∀ w, (Instr.index 185 (.agg #[.string ⟨#[43]⟩, .string ⟨#[45]⟩, .string ⟨#[33]⟩, .string ⟨#[126]⟩, .string ⟨#[38]⟩, .string ⟨#[124]⟩, .string ⟨#[94]⟩, .string ⟨#[126, 38]⟩, .string ⟨#[126, 124]⟩, .string ⟨#[126, 94]⟩]) (.int .u8 3)).run Tryz.prog w = .ok (.string ⟨#[126]⟩) w := fun w => by kernel_rfl
 go_enter Tryz.func149, Tryz.ntmps149
 go_wp2
 go_ret
 exact ⟨rfl, rfl⟩
set_option maxRecDepth 100000 in
set_option maxHeartbeats 2000000 in
theorem w_un4 (w : World) : Calls Tryz.prog 149 #[.int .u8 15] w fun e w' => e = .returned (.string ⟨#[38]⟩) ∧ w' = w := by
 have h : ∀ w, (Instr.index 185 (.agg #[.string ⟨#[43]⟩, .string ⟨#[45]⟩, .string ⟨#[33]⟩, .string ⟨#[126]⟩, .string ⟨#[38]⟩, .string ⟨#[124]⟩, .string ⟨#[94]⟩, .string ⟨#[126, 38]⟩, .string ⟨#[126, 124]⟩, .string ⟨#[126, 94]⟩]) (.int .u8 4)).run Tryz.prog w = .ok (.string ⟨#[38]⟩) w := fun w => by kernel_rfl
 go_enter Tryz.func149, Tryz.ntmps149
 go_wp2
 go_ret
 exact ⟨rfl, rfl⟩
set_option maxRecDepth 100000 in
set_option maxHeartbeats 2000000 in
theorem w_un5 (w : World) : Calls Tryz.prog 149 #[.int .u8 16] w fun e w' => e = .returned (.string ⟨#[124]⟩) ∧ w' = w := by
 have h : ∀ w, (Instr.index 185 (.agg #[.string ⟨#[43]⟩, .string ⟨#[45]⟩, .string ⟨#[33]⟩, .string ⟨#[126]⟩, .string ⟨#[38]⟩, .string ⟨#[124]⟩, .string ⟨#[94]⟩, .string ⟨#[126, 38]⟩, .string ⟨#[126, 124]⟩, .string ⟨#[126, 94]⟩]) (.int .u8 5)).run Tryz.prog w = .ok (.string ⟨#[124]⟩) w := fun w => by kernel_rfl
 go_enter Tryz.func149, Tryz.ntmps149
 go_wp2
 go_ret
 exact ⟨rfl, rfl⟩
set_option maxRecDepth 100000 in
set_option maxHeartbeats 2000000 in
theorem w_un6 (w : World) : Calls Tryz.prog 149 #[.int .u8 17] w fun e w' => e = .returned (.string ⟨#[94]⟩) ∧ w' = w := by
 have h : ∀ w, (Instr.index 185 (.agg #[.string ⟨#[43]⟩, .string ⟨#[45]⟩, .string ⟨#[33]⟩, .string ⟨#[126]⟩, .string ⟨#[38]⟩, .string ⟨#[124]⟩, .string ⟨#[94]⟩, .string ⟨#[126, 38]⟩, .string ⟨#[126, 124]⟩, .string ⟨#[126, 94]⟩]) (.int .u8 6)).run Tryz.prog w = .ok (.string ⟨#[94]⟩) w := fun w => by kernel_rfl
 go_enter Tryz.func149, Tryz.ntmps149
 go_wp2
 go_ret
 exact ⟨rfl, rfl⟩
set_option maxRecDepth 100000 in
set_option maxHeartbeats 2000000 in
theorem w_un7 (w : World) : Calls Tryz.prog 149 #[.int .u8 18] w fun e w' => e = .returned (.string ⟨#[126, 38]⟩) ∧ w' = w := by
 have h : ∀ w, (Instr.index 185 (.agg #[.string ⟨#[43]⟩, .string ⟨#[45]⟩, .string ⟨#[33]⟩, .string ⟨#[126]⟩, .string ⟨#[38]⟩, .string ⟨#[124]⟩, .string ⟨#[94]⟩, .string ⟨#[126, 38]⟩, .string ⟨#[126, 124]⟩, .string ⟨#[126, 94]⟩]) (.int .u8 7)).run Tryz.prog w = .ok (.string ⟨#[126, 38]⟩) w := fun w => by kernel_rfl
 go_enter Tryz.func149, Tryz.ntmps149
 go_wp2
 go_ret
 exact ⟨rfl, rfl⟩
set_option maxRecDepth 100000 in
set_option maxHeartbeats 2000000 in
theorem w_un8 (w : World) : Calls Tryz.prog 149 #[.int .u8 19] w fun e w' => e = .returned (.string ⟨#[126, 124]⟩) ∧ w' = w := by
 have h : ∀ w, (Instr.index 185 (.agg #[.string ⟨#[43]⟩, .string ⟨#[45]⟩, .string ⟨#[33]⟩, .string ⟨#[126]⟩, .string ⟨#[38]⟩, .string ⟨#[124]⟩, .string ⟨#[94]⟩, .string ⟨#[126, 38]⟩, .string ⟨#[126, 124]⟩, .string ⟨#[126, 94]⟩]) (.int .u8 8)).run Tryz.prog w = .ok (.string ⟨#[126, 124]⟩) w := fun w => by kernel_rfl
 go_enter Tryz.func149, Tryz.ntmps149
 go_wp2
 go_ret
 exact ⟨rfl, rfl⟩
set_option maxRecDepth 100000 in
set_option maxHeartbeats 2000000 in
theorem w_un9 (w : World) : Calls Tryz.prog 149 #[.int .u8 20] w fun e w' => e = .returned (.string ⟨#[126, 94]⟩) ∧ w' = w := by
 have h : ∀ w, (Instr.index 185 (.agg #[.string ⟨#[43]⟩, .string ⟨#[45]⟩, .string ⟨#[33]⟩, .string ⟨#[126]⟩, .string ⟨#[38]⟩, .string ⟨#[124]⟩, .string ⟨#[94]⟩, .string ⟨#[126, 38]⟩, .string ⟨#[126, 124]⟩, .string ⟨#[126, 94]⟩]) (.int .u8 9)).run Tryz.prog w = .ok (.string ⟨#[126, 94]⟩) w := fun w => by kernel_rfl
 go_enter Tryz.func149, Tryz.ntmps149
 go_wp2
 go_ret
 exact ⟨rfl, rfl⟩
def tab_un : Tab := [(11, 1, 43), (12, 1, 45), (13, 1, 33), (14, 1, 126), (15, 1, 38), (16, 1, 124), (17, 1, 94), (18, 2, 9854), (19, 2, 31870), (20, 2, 24190)]
theorem ws_un : ∀ e ∈ tab_un, ∀ w, Calls Tryz.prog 149 #[.int .u8 (e.1 : Int)] w fun e2 w' => e2 = .returned (.string (bstr e.2.1 e.2.2)) ∧ w' = w := by
 intro e he w
 simp only [tab_un, List.mem_cons, List.not_mem_nil, or_false] at he
 rcases he with rfl | rfl | rfl | rfl | rfl | rfl | rfl | rfl | rfl | rfl
 ·exact w_un0 w
 ·exact w_un1 w
 ·exact w_un2 w
 ·exact w_un3 w
 ·exact w_un4 w
 ·exact w_un5 w
 ·exact w_un6 w
 ·exact w_un7 w
 ·exact w_un8 w
 ·exact w_un9 w
set_option maxRecDepth 100000 in
set_option maxHeartbeats 2000000 in
theorem w_bi0 (w : World) : Calls Tryz.prog 119 #[.int .u8 21] w fun e w' => e = .returned (.string ⟨#[43]⟩) ∧ w' = w := by
 have h : ∀ w, (Instr.index 168 (.agg #[.string ⟨#[43]⟩, .string ⟨#[45]⟩, .string ⟨#[42]⟩, .string ⟨#[47]⟩, .string ⟨#[37]⟩, .string ⟨#[42, 42]⟩, .string ⟨#[61, 61]⟩, .string ⟨#[33, 61]⟩, .string ⟨#[61, 61, 61]⟩, .string ⟨#[33, 61, 61]⟩, .string ⟨#[60]⟩, .string ⟨#[60, 61]⟩, .string ⟨#[62]⟩, .string ⟨#[62, 61]⟩, .string ⟨#[38, 38]⟩, .string ⟨#[124, 124]⟩, .string ⟨#[38]⟩, .string ⟨#[124]⟩, .string ⟨#[94]⟩, .string ⟨#[126, 94]⟩, .string ⟨#[60, 60]⟩, .string ⟨#[62, 62]⟩, .string ⟨#[60, 60, 60]⟩, .string ⟨#[62, 62, 62]⟩]) (.int .u8 0)).run Tryz.prog w = .ok (.string ⟨#[43]⟩) w := fun w => by kernel_rfl
 go_enter Tryz.func119, Tryz.ntmps119
 go_wp2
 go_ret
 exact ⟨rfl, rfl⟩
set_option maxRecDepth 100000 in
set_option maxHeartbeats 2000000 in
theorem w_bi1 (w : World) : Calls Tryz.prog 119 #[.int .u8 22] w fun e w' => e = .returned (.string ⟨#[45]⟩) ∧ w' = w := by
 have h : ∀ w, (Instr.index 168 (.agg #[.string ⟨#[43]⟩, .string ⟨#[45]⟩, .string ⟨#[42]⟩, .string ⟨#[47]⟩, .string ⟨#[37]⟩, .string ⟨#[42, 42]⟩, .string ⟨#[61, 61]⟩, .string ⟨#[33, 61]⟩, .string ⟨#[61, 61, 61]⟩, .string ⟨#[33, 61, 61]⟩, .string ⟨#[60]⟩, .string ⟨#[60, 61]⟩, .string ⟨#[62]⟩, .string ⟨#[62, 61]⟩, .string ⟨#[38, 38]⟩, .string ⟨#[124, 124]⟩, .string ⟨#[38]⟩, .string ⟨#[124]⟩, .string ⟨#[94]⟩, .string ⟨#[126, 94]⟩, .string ⟨#[60, 60]⟩, .string ⟨#[62, 62]⟩, .string ⟨#[60, 60, 60]⟩, .string ⟨#[62, 62, 62]⟩]) (.int .u8 1)).run Tryz.prog w = .ok (.string ⟨#[45]⟩) w := fun w => by kernel_rfl
 go_enter Tryz.func119, Tryz.ntmps119
 go_wp2
 go_ret
 exact ⟨rfl, rfl⟩
set_option maxRecDepth 100000 in
set_option maxHeartbeats 2000000 in
theorem w_bi2 (w : World) : Calls Tryz.prog 119 #[.int .u8 23] w fun e w' => e = .returned (.string ⟨#[42]⟩) ∧ w' = w := by
 have h : ∀ w, (Instr.index 168 (.agg #[.string ⟨#[43]⟩, .string ⟨#[45]⟩, .string ⟨#[42]⟩, .string ⟨#[47]⟩, .string ⟨#[37]⟩, .string ⟨#[42, 42]⟩, .string ⟨#[61, 61]⟩, .string ⟨#[33, 61]⟩, .string ⟨#[61, 61, 61]⟩, .string ⟨#[33, 61, 61]⟩, .string ⟨#[60]⟩, .string ⟨#[60, 61]⟩, .string ⟨#[62]⟩, .string ⟨#[62, 61]⟩, .string ⟨#[38, 38]⟩, .string ⟨#[124, 124]⟩, .string ⟨#[38]⟩, .string ⟨#[124]⟩, .string ⟨#[94]⟩, .string ⟨#[126, 94]⟩, .string ⟨#[60, 60]⟩, .string ⟨#[62, 62]⟩, .string ⟨#[60, 60, 60]⟩, .string ⟨#[62, 62, 62]⟩]) (.int .u8 2)).run Tryz.prog w = .ok (.string ⟨#[42]⟩) w := fun w => by kernel_rfl
 go_enter Tryz.func119, Tryz.ntmps119
 go_wp2
 go_ret
 exact ⟨rfl, rfl⟩
set_option maxRecDepth 100000 in
set_option maxHeartbeats 2000000 in
theorem w_bi3 (w : World) : Calls Tryz.prog 119 #[.int .u8 24] w fun e w' => e = .returned (.string ⟨#[47]⟩) ∧ w' = w := by
 have h : ∀ w, (Instr.index 168 (.agg #[.string ⟨#[43]⟩, .string ⟨#[45]⟩, .string ⟨#[42]⟩, .string ⟨#[47]⟩, .string ⟨#[37]⟩, .string ⟨#[42, 42]⟩, .string ⟨#[61, 61]⟩, .string ⟨#[33, 61]⟩, .string ⟨#[61, 61, 61]⟩, .string ⟨#[33, 61, 61]⟩, .string ⟨#[60]⟩, .string ⟨#[60, 61]⟩, .string ⟨#[62]⟩, .string ⟨#[62, 61]⟩, .string ⟨#[38, 38]⟩, .string ⟨#[124, 124]⟩, .string ⟨#[38]⟩, .string ⟨#[124]⟩, .string ⟨#[94]⟩, .string ⟨#[126, 94]⟩, .string ⟨#[60, 60]⟩, .string ⟨#[62, 62]⟩, .string ⟨#[60, 60, 60]⟩, .string ⟨#[62, 62, 62]⟩]) (.int .u8 3)).run Tryz.prog w = .ok (.string ⟨#[47]⟩) w := fun w => by kernel_rfl
 go_enter Tryz.func119, Tryz.ntmps119
 go_wp2
 go_ret
 exact ⟨rfl, rfl⟩
set_option maxRecDepth 100000 in
set_option maxHeartbeats 2000000 in
theorem w_bi4 (w : World) : Calls Tryz.prog 119 #[.int .u8 25] w fun e w' => e = .returned (.string ⟨#[37]⟩) ∧ w' = w := by
 have h : ∀ w, (Instr.index 168 (.agg #[.string ⟨#[43]⟩, .string ⟨#[45]⟩, .string ⟨#[42]⟩, .string ⟨#[47]⟩, .string ⟨#[37]⟩, .string ⟨#[42, 42]⟩, .string ⟨#[61, 61]⟩, .string ⟨#[33, 61]⟩, .string ⟨#[61, 61, 61]⟩, .string ⟨#[33, 61, 61]⟩, .string ⟨#[60]⟩, .string ⟨#[60, 61]⟩, .string ⟨#[62]⟩, .string ⟨#[62, 61]⟩, .string ⟨#[38, 38]⟩, .string ⟨#[124, 124]⟩, .string ⟨#[38]⟩, .string ⟨#[124]⟩, .string ⟨#[94]⟩, .string ⟨#[126, 94]⟩, .string ⟨#[60, 60]⟩, .string ⟨#[62, 62]⟩, .string ⟨#[60, 60, 60]⟩, .string ⟨#[62, 62, 62]⟩]) (.int .u8 4)).run Tryz.prog w = .ok (.string ⟨#[37]⟩) w := fun w => by kernel_rfl
 go_enter Tryz.func119, Tryz.ntmps119
 go_wp2
 go_ret
 exact ⟨rfl, rfl⟩
set_option maxRecDepth 100000 in
set_option maxHeartbeats 2000000 in
theorem w_bi5 (w : World) : Calls Tryz.prog 119 #[.int .u8 26] w fun e w' => e = .returned (.string ⟨#[42, 42]⟩) ∧ w' = w := by
 have h : ∀ w, (Instr.index 168 (.agg #[.string ⟨#[43]⟩, .string ⟨#[45]⟩, .string ⟨#[42]⟩, .string ⟨#[47]⟩, .string ⟨#[37]⟩, .string ⟨#[42, 42]⟩, .string ⟨#[61, 61]⟩, .string ⟨#[33, 61]⟩, .string ⟨#[61, 61, 61]⟩, .string ⟨#[33, 61, 61]⟩, .string ⟨#[60]⟩, .string ⟨#[60, 61]⟩, .string ⟨#[62]⟩, .string ⟨#[62, 61]⟩, .string ⟨#[38, 38]⟩, .string ⟨#[124, 124]⟩, .string ⟨#[38]⟩, .string ⟨#[124]⟩, .string ⟨#[94]⟩, .string ⟨#[126, 94]⟩, .string ⟨#[60, 60]⟩, .string ⟨#[62, 62]⟩, .string ⟨#[60, 60, 60]⟩, .string ⟨#[62, 62, 62]⟩]) (.int .u8 5)).run Tryz.prog w = .ok (.string ⟨#[42, 42]⟩) w := fun w => by kernel_rfl
 go_enter Tryz.func119, Tryz.ntmps119
 go_wp2
 go_ret
 exact ⟨rfl, rfl⟩
set_option maxRecDepth 100000 in
set_option maxHeartbeats 2000000 in
theorem w_bi6 (w : World) : Calls Tryz.prog 119 #[.int .u8 27] w fun e w' => e = .returned (.string ⟨#[61, 61]⟩) ∧ w' = w := by
 have h : ∀ w, (Instr.index 168 (.agg #[.string ⟨#[43]⟩, .string ⟨#[45]⟩, .string ⟨#[42]⟩, .string ⟨#[47]⟩, .string ⟨#[37]⟩, .string ⟨#[42, 42]⟩, .string ⟨#[61, 61]⟩, .string ⟨#[33, 61]⟩, .string ⟨#[61, 61, 61]⟩, .string ⟨#[33, 61, 61]⟩, .string ⟨#[60]⟩, .string ⟨#[60, 61]⟩, .string ⟨#[62]⟩, .string ⟨#[62, 61]⟩, .string ⟨#[38, 38]⟩, .string ⟨#[124, 124]⟩, .string ⟨#[38]⟩, .string ⟨#[124]⟩, .string ⟨#[94]⟩, .string ⟨#[126, 94]⟩, .string ⟨#[60, 60]⟩, .string ⟨#[62, 62]⟩, .string ⟨#[60, 60, 60]⟩, .string ⟨#[62, 62, 62]⟩]) (.int .u8 6)).run Tryz.prog w = .ok (.string ⟨#[61, 61]⟩) w := fun w => by kernel_rfl
 go_enter Tryz.func119, Tryz.ntmps119
 go_wp2
 go_ret
 exact ⟨rfl, rfl⟩
set_option maxRecDepth 100000 in
set_option maxHeartbeats 2000000 in
theorem w_bi7 (w : World) : Calls Tryz.prog 119 #[.int .u8 28] w fun e w' => e = .returned (.string ⟨#[33, 61]⟩) ∧ w' = w := by
 have h : ∀ w, (Instr.index 168 (.agg #[.string ⟨#[43]⟩, .string ⟨#[45]⟩, .string ⟨#[42]⟩, .string ⟨#[47]⟩, .string ⟨#[37]⟩, .string ⟨#[42, 42]⟩, .string ⟨#[61, 61]⟩, .string ⟨#[33, 61]⟩, .string ⟨#[61, 61, 61]⟩, .string ⟨#[33, 61, 61]⟩, .string ⟨#[60]⟩, .string ⟨#[60, 61]⟩, .string ⟨#[62]⟩, .string ⟨#[62, 61]⟩, .string ⟨#[38, 38]⟩, .string ⟨#[124, 124]⟩, .string ⟨#[38]⟩, .string ⟨#[124]⟩, .string ⟨#[94]⟩, .string ⟨#[126, 94]⟩, .string ⟨#[60, 60]⟩, .string ⟨#[62, 62]⟩, .string ⟨#[60, 60, 60]⟩, .string ⟨#[62, 62, 62]⟩]) (.int .u8 7)).run Tryz.prog w = .ok (.string ⟨#[33, 61]⟩) w := fun w => by kernel_rfl
 go_enter Tryz.func119, Tryz.ntmps119
 go_wp2
 go_ret
 exact ⟨rfl, rfl⟩
set_option maxRecDepth 100000 in
set_option maxHeartbeats 2000000 in
theorem w_bi8 (w : World) : Calls Tryz.prog 119 #[.int .u8 29] w fun e w' => e = .returned (.string ⟨#[61, 61, 61]⟩) ∧ w' = w := by
 have h : ∀ w, (Instr.index 168 (.agg #[.string ⟨#[43]⟩, .string ⟨#[45]⟩, .string ⟨#[42]⟩, .string ⟨#[47]⟩, .string ⟨#[37]⟩, .string ⟨#[42, 42]⟩, .string ⟨#[61, 61]⟩, .string ⟨#[33, 61]⟩, .string ⟨#[61, 61, 61]⟩, .string ⟨#[33, 61, 61]⟩, .string ⟨#[60]⟩, .string ⟨#[60, 61]⟩, .string ⟨#[62]⟩, .string ⟨#[62, 61]⟩, .string ⟨#[38, 38]⟩, .string ⟨#[124, 124]⟩, .string ⟨#[38]⟩, .string ⟨#[124]⟩, .string ⟨#[94]⟩, .string ⟨#[126, 94]⟩, .string ⟨#[60, 60]⟩, .string ⟨#[62, 62]⟩, .string ⟨#[60, 60, 60]⟩, .string ⟨#[62, 62, 62]⟩]) (.int .u8 8)).run Tryz.prog w = .ok (.string ⟨#[61, 61, 61]⟩) w := fun w => by kernel_rfl
 go_enter Tryz.func119, Tryz.ntmps119
 go_wp2
 go_ret
 exact ⟨rfl, rfl⟩
set_option maxRecDepth 100000 in
set_option maxHeartbeats 2000000 in
theorem w_bi9 (w : World) : Calls Tryz.prog 119 #[.int .u8 30] w fun e w' => e = .returned (.string ⟨#[33, 61, 61]⟩) ∧ w' = w := by
 have h : ∀ w, (Instr.index 168 (.agg #[.string ⟨#[43]⟩, .string ⟨#[45]⟩, .string ⟨#[42]⟩, .string ⟨#[47]⟩, .string ⟨#[37]⟩, .string ⟨#[42, 42]⟩, .string ⟨#[61, 61]⟩, .string ⟨#[33, 61]⟩, .string ⟨#[61, 61, 61]⟩, .string ⟨#[33, 61, 61]⟩, .string ⟨#[60]⟩, .string ⟨#[60, 61]⟩, .string ⟨#[62]⟩, .string ⟨#[62, 61]⟩, .string ⟨#[38, 38]⟩, .string ⟨#[124, 124]⟩, .string ⟨#[38]⟩, .string ⟨#[124]⟩, .string ⟨#[94]⟩, .string ⟨#[126, 94]⟩, .string ⟨#[60, 60]⟩, .string ⟨#[62, 62]⟩, .string ⟨#[60, 60, 60]⟩, .string ⟨#[62, 62, 62]⟩]) (.int .u8 9)).run Tryz.prog w = .ok (.string ⟨#[33, 61, 61]⟩) w := fun w => by kernel_rfl
 go_enter Tryz.func119, Tryz.ntmps119
 go_wp2
 go_ret
 exact ⟨rfl, rfl⟩
set_option maxRecDepth 100000 in
set_option maxHeartbeats 2000000 in
theorem w_bi10 (w : World) : Calls Tryz.prog 119 #[.int .u8 31] w fun e w' => e = .returned (.string ⟨#[60]⟩) ∧ w' = w := by
 have h : ∀ w, (Instr.index 168 (.agg #[.string ⟨#[43]⟩, .string ⟨#[45]⟩, .string ⟨#[42]⟩, .string ⟨#[47]⟩, .string ⟨#[37]⟩, .string ⟨#[42, 42]⟩, .string ⟨#[61, 61]⟩, .string ⟨#[33, 61]⟩, .string ⟨#[61, 61, 61]⟩, .string ⟨#[33, 61, 61]⟩, .string ⟨#[60]⟩, .string ⟨#[60, 61]⟩, .string ⟨#[62]⟩, .string ⟨#[62, 61]⟩, .string ⟨#[38, 38]⟩, .string ⟨#[124, 124]⟩, .string ⟨#[38]⟩, .string ⟨#[124]⟩, .string ⟨#[94]⟩, .string ⟨#[126, 94]⟩, .string ⟨#[60, 60]⟩, .string ⟨#[62, 62]⟩, .string ⟨#[60, 60, 60]⟩, .string ⟨#[62, 62, 62]⟩]) (.int .u8 10)).run Tryz.prog w = .ok (.string ⟨#[60]⟩) w := fun w => by kernel_rfl
 go_enter Tryz.func119, Tryz.ntmps119
 go_wp2
 go_ret
 exact ⟨rfl, rfl⟩
set_option maxRecDepth 100000 in
set_option maxHeartbeats 2000000 in
theorem w_bi11 (w : World) : Calls Tryz.prog 119 #[.int .u8 32] w fun e w' => e = .returned (.string ⟨#[60, 61]⟩) ∧ w' = w := by
 have h : ∀ w, (Instr.index 168 (.agg #[.string ⟨#[43]⟩, .string ⟨#[45]⟩, .string ⟨#[42]⟩, .string ⟨#[47]⟩, .string ⟨#[37]⟩, .string ⟨#[42, 42]⟩, .string ⟨#[61, 61]⟩, .string ⟨#[33, 61]⟩, .string ⟨#[61, 61, 61]⟩, .string ⟨#[33, 61, 61]⟩, .string ⟨#[60]⟩, .string ⟨#[60, 61]⟩, .string ⟨#[62]⟩, .string ⟨#[62, 61]⟩, .string ⟨#[38, 38]⟩, .string ⟨#[124, 124]⟩, .string ⟨#[38]⟩, .string ⟨#[124]⟩, .string ⟨#[94]⟩, .string ⟨#[126, 94]⟩, .string ⟨#[60, 60]⟩, .string ⟨#[62, 62]⟩, .string ⟨#[60, 60, 60]⟩, .string ⟨#[62, 62, 62]⟩]) (.int .u8 11)).run Tryz.prog w = .ok (.string ⟨#[60, 61]⟩) w := fun w => by kernel_rfl
 go_enter Tryz.func119, Tryz.ntmps119
 go_wp2
 go_ret
 exact ⟨rfl, rfl⟩
set_option maxRecDepth 100000 in
set_option maxHeartbeats 2000000 in
theorem w_bi12 (w : World) : Calls Tryz.prog 119 #[.int .u8 33] w fun e w' => e = .returned (.string ⟨#[62]⟩) ∧ w' = w := by
 have h : ∀ w, (Instr.index 168 (.agg #[.string ⟨#[43]⟩, .string ⟨#[45]⟩, .string ⟨#[42]⟩, .string ⟨#[47]⟩, .string ⟨#[37]⟩, .string ⟨#[42, 42]⟩, .string ⟨#[61, 61]⟩, .string ⟨#[33, 61]⟩, .string ⟨#[61, 61, 61]⟩, .string ⟨#[33, 61, 61]⟩, .string ⟨#[60]⟩, .string ⟨#[60, 61]⟩, .string ⟨#[62]⟩, .string ⟨#[62, 61]⟩, .string ⟨#[38, 38]⟩, .string ⟨#[124, 124]⟩, .string ⟨#[38]⟩, .string ⟨#[124]⟩, .string ⟨#[94]⟩, .string ⟨#[126, 94]⟩, .string ⟨#[60, 60]⟩, .string ⟨#[62, 62]⟩, .string ⟨#[60, 60, 60]⟩, .string ⟨#[62, 62, 62]⟩]) (.int .u8 12)).run Tryz.prog w = .ok (.string ⟨#[62]⟩) w := fun w => by kernel_rfl
 go_enter Tryz.func119, Tryz.ntmps119
 go_wp2
 go_ret
 exact ⟨rfl, rfl⟩
set_option maxRecDepth 100000 in
set_option maxHeartbeats 2000000 in
theorem w_bi13 (w : World) : Calls Tryz.prog 119 #[.int .u8 34] w fun e w' => e = .returned (.string ⟨#[62, 61]⟩) ∧ w' = w := by
 have h : ∀ w, (Instr.index 168 (.agg #[.string ⟨#[43]⟩, .string ⟨#[45]⟩, .string ⟨#[42]⟩, .string ⟨#[47]⟩, .string ⟨#[37]⟩, .string ⟨#[42, 42]⟩, .string ⟨#[61, 61]⟩, .string ⟨#[33, 61]⟩, .string ⟨#[61, 61, 61]⟩, .string ⟨#[33, 61, 61]⟩, .string ⟨#[60]⟩, .string ⟨#[60, 61]⟩, .string ⟨#[62]⟩, .string ⟨#[62, 61]⟩, .string ⟨#[38, 38]⟩, .string ⟨#[124, 124]⟩, .string ⟨#[38]⟩, .string ⟨#[124]⟩, .string ⟨#[94]⟩, .string ⟨#[126, 94]⟩, .string ⟨#[60, 60]⟩, .string ⟨#[62, 62]⟩, .string ⟨#[60, 60, 60]⟩, .string ⟨#[62, 62, 62]⟩]) (.int .u8 13)).run Tryz.prog w = .ok (.string ⟨#[62, 61]⟩) w := fun w => by kernel_rfl
 go_enter Tryz.func119, Tryz.ntmps119
 go_wp2
 go_ret
 exact ⟨rfl, rfl⟩
set_option maxRecDepth 100000 in
set_option maxHeartbeats 2000000 in
theorem w_bi14 (w : World) : Calls Tryz.prog 119 #[.int .u8 35] w fun e w' => e = .returned (.string ⟨#[38, 38]⟩) ∧ w' = w := by
 have h : ∀ w, (Instr.index 168 (.agg #[.string ⟨#[43]⟩, .string ⟨#[45]⟩, .string ⟨#[42]⟩, .string ⟨#[47]⟩, .string ⟨#[37]⟩, .string ⟨#[42, 42]⟩, .string ⟨#[61, 61]⟩, .string ⟨#[33, 61]⟩, .string ⟨#[61, 61, 61]⟩, .string ⟨#[33, 61, 61]⟩, .string ⟨#[60]⟩, .string ⟨#[60, 61]⟩, .string ⟨#[62]⟩, .string ⟨#[62, 61]⟩, .string ⟨#[38, 38]⟩, .string ⟨#[124, 124]⟩, .string ⟨#[38]⟩, .string ⟨#[124]⟩, .string ⟨#[94]⟩, .string ⟨#[126, 94]⟩, .string ⟨#[60, 60]⟩, .string ⟨#[62, 62]⟩, .string ⟨#[60, 60, 60]⟩, .string ⟨#[62, 62, 62]⟩]) (.int .u8 14)).run Tryz.prog w = .ok (.string ⟨#[38, 38]⟩) w := fun w => by kernel_rfl
 go_enter Tryz.func119, Tryz.ntmps119
 go_wp2
 go_ret
 exact ⟨rfl, rfl⟩
set_option maxRecDepth 100000 in
set_option maxHeartbeats 2000000 in
theorem w_bi15 (w : World) : Calls Tryz.prog 119 #[.int .u8 36] w fun e w' => e = .returned (.string ⟨#[124, 124]⟩) ∧ w' = w := by
 have h : ∀ w, (Instr.index 168 (.agg #[.string ⟨#[43]⟩, .string ⟨#[45]⟩, .string ⟨#[42]⟩, .string ⟨#[47]⟩, .string ⟨#[37]⟩, .string ⟨#[42, 42]⟩, .string ⟨#[61, 61]⟩, .string ⟨#[33, 61]⟩, .string ⟨#[61, 61, 61]⟩, .string ⟨#[33, 61, 61]⟩, .string ⟨#[60]⟩, .string ⟨#[60, 61]⟩, .string ⟨#[62]⟩, .string ⟨#[62, 61]⟩, .string ⟨#[38, 38]⟩, .string ⟨#[124, 124]⟩, .string ⟨#[38]⟩, .string ⟨#[124]⟩, .string ⟨#[94]⟩, .string ⟨#[126, 94]⟩, .string ⟨#[60, 60]⟩, .string ⟨#[62, 62]⟩, .string ⟨#[60, 60, 60]⟩, .string ⟨#[62, 62, 62]⟩]) (.int .u8 15)).run Tryz.prog w = .ok (.string ⟨#[124, 124]⟩) w := fun w => by kernel_rfl
 go_enter Tryz.func119, Tryz.ntmps119
 go_wp2
 go_ret
 exact ⟨rfl, rfl⟩
set_option maxRecDepth 100000 in
set_option maxHeartbeats 2000000 in
theorem w_bi16 (w : World) : Calls Tryz.prog 119 #[.int .u8 37] w fun e w' => e = .returned (.string ⟨#[38]⟩) ∧ w' = w := by
 have h : ∀ w, (Instr.index 168 (.agg #[.string ⟨#[43]⟩, .string ⟨#[45]⟩, .string ⟨#[42]⟩, .string ⟨#[47]⟩, .string ⟨#[37]⟩, .string ⟨#[42, 42]⟩, .string ⟨#[61, 61]⟩, .string ⟨#[33, 61]⟩, .string ⟨#[61, 61, 61]⟩, .string ⟨#[33, 61, 61]⟩, .string ⟨#[60]⟩, .string ⟨#[60, 61]⟩, .string ⟨#[62]⟩, .string ⟨#[62, 61]⟩, .string ⟨#[38, 38]⟩, .string ⟨#[124, 124]⟩, .string ⟨#[38]⟩, .string ⟨#[124]⟩, .string ⟨#[94]⟩, .string ⟨#[126, 94]⟩, .string ⟨#[60, 60]⟩, .string ⟨#[62, 62]⟩, .string ⟨#[60, 60, 60]⟩, .string ⟨#[62, 62, 62]⟩]) (.int .u8 16)).run Tryz.prog w = .ok (.string ⟨#[38]⟩) w := fun w => by kernel_rfl
 go_enter Tryz.func119, Tryz.ntmps119
 go_wp2
 go_ret
 exact ⟨rfl, rfl⟩
set_option maxRecDepth 100000 in
set_option maxHeartbeats 2000000 in
theorem w_bi17 (w : World) : Calls Tryz.prog 119 #[.int .u8 38] w fun e w' => e = .returned (.string ⟨#[124]⟩) ∧ w' = w := by
 have h : ∀ w, (Instr.index 168 (.agg #[.string ⟨#[43]⟩, .string ⟨#[45]⟩, .string ⟨#[42]⟩, .string ⟨#[47]⟩, .string ⟨#[37]⟩, .string ⟨#[42, 42]⟩, .string ⟨#[61, 61]⟩, .string ⟨#[33, 61]⟩, .string ⟨#[61, 61, 61]⟩, .string ⟨#[33, 61, 61]⟩, .string ⟨#[60]⟩, .string ⟨#[60, 61]⟩, .string ⟨#[62]⟩, .string ⟨#[62, 61]⟩, .string ⟨#[38, 38]⟩, .string ⟨#[124, 124]⟩, .string ⟨#[38]⟩, .string ⟨#[124]⟩, .string ⟨#[94]⟩, .string ⟨#[126, 94]⟩, .string ⟨#[60, 60]⟩, .string ⟨#[62, 62]⟩, .string ⟨#[60, 60, 60]⟩, .string ⟨#[62, 62, 62]⟩]) (.int .u8 17)).run Tryz.prog w = .ok (.string ⟨#[124]⟩) w := fun w => by kernel_rfl
 go_enter Tryz.func119, Tryz.ntmps119
 go_wp2
 go_ret
 exact ⟨rfl, rfl⟩
set_option maxRecDepth 100000 in
set_option maxHeartbeats 2000000 in
theorem w_bi18 (w : World) : Calls Tryz.prog 119 #[.int .u8 39] w fun e w' => e = .returned (.string ⟨#[94]⟩) ∧ w' = w := by
 have h : ∀ w, (Instr.index 168 (.agg #[.string ⟨#[43]⟩, .string ⟨#[45]⟩, .string ⟨#[42]⟩, .string ⟨#[47]⟩, .string ⟨#[37]⟩, .string ⟨#[42, 42]⟩, .string ⟨#[61, 61]⟩, .string ⟨#[33, 61]⟩, .string ⟨#[61, 61, 61]⟩, .string ⟨#[33, 61, 61]⟩, .string ⟨#[60]⟩, .string ⟨#[60, 61]⟩, .string ⟨#[62]⟩, .string ⟨#[62, 61]⟩, .string ⟨#[38, 38]⟩, .string ⟨#[124, 124]⟩, .string ⟨#[38]⟩, .string ⟨#[124]⟩, .string ⟨#[94]⟩, .string ⟨#[126, 94]⟩, .string ⟨#[60, 60]⟩, .string ⟨#[62, 62]⟩, .string ⟨#[60, 60, 60]⟩, .string ⟨#[62, 62, 62]⟩]) (.int .u8 18)).run Tryz.prog w = .ok (.string ⟨#[94]⟩) w := fun w => by kernel_rfl
 go_enter Tryz.func119, Tryz.ntmps119
 go_wp2
 go_ret
 exact ⟨rfl, rfl⟩
set_option maxRecDepth 100000 in
set_option maxHeartbeats 2000000 in
theorem w_bi19 (w : World) : Calls Tryz.prog 119 #[.int .u8 40] w fun e w' => e = .returned (.string ⟨#[126, 94]⟩) ∧ w' = w := by
 have h : ∀ w, (Instr.index 168 (.agg #[.string ⟨#[43]⟩, .string ⟨#[45]⟩, .string ⟨#[42]⟩, .string ⟨#[47]⟩, .string ⟨#[37]⟩, .string ⟨#[42, 42]⟩, .string ⟨#[61, 61]⟩, .string ⟨#[33, 61]⟩, .string ⟨#[61, 61, 61]⟩, .string ⟨#[33, 61, 61]⟩, .string ⟨#[60]⟩, .string ⟨#[60, 61]⟩, .string ⟨#[62]⟩, .string ⟨#[62, 61]⟩, .string ⟨#[38, 38]⟩, .string ⟨#[124, 124]⟩, .string ⟨#[38]⟩, .string ⟨#[124]⟩, .string ⟨#[94]⟩, .string ⟨#[126, 94]⟩, .string ⟨#[60, 60]⟩, .string ⟨#[62, 62]⟩, .string ⟨#[60, 60, 60]⟩, .string ⟨#[62, 62, 62]⟩]) (.int .u8 19)).run Tryz.prog w = .ok (.string ⟨#[126, 94]⟩) w := fun w => by kernel_rfl
 go_enter Tryz.func119, Tryz.ntmps119
 go_wp2
 go_ret
 exact ⟨rfl, rfl⟩
set_option maxRecDepth 100000 in
set_option maxHeartbeats 2000000 in
theorem w_bi20 (w : World) : Calls Tryz.prog 119 #[.int .u8 41] w fun e w' => e = .returned (.string ⟨#[60, 60]⟩) ∧ w' = w := by
 have h : ∀ w, (Instr.index 168 (.agg #[.string ⟨#[43]⟩, .string ⟨#[45]⟩, .string ⟨#[42]⟩, .string ⟨#[47]⟩, .string ⟨#[37]⟩, .string ⟨#[42, 42]⟩, .string ⟨#[61, 61]⟩, .string ⟨#[33, 61]⟩, .string ⟨#[61, 61, 61]⟩, .string ⟨#[33, 61, 61]⟩, .string ⟨#[60]⟩, .string ⟨#[60, 61]⟩, .string ⟨#[62]⟩, .string ⟨#[62, 61]⟩, .string ⟨#[38, 38]⟩, .string ⟨#[124, 124]⟩, .string ⟨#[38]⟩, .string ⟨#[124]⟩, .string ⟨#[94]⟩, .string ⟨#[126, 94]⟩, .string ⟨#[60, 60]⟩, .string ⟨#[62, 62]⟩, .string ⟨#[60, 60, 60]⟩, .string ⟨#[62, 62, 62]⟩]) (.int .u8 20)).run Tryz.prog w = .ok (.string ⟨#[60, 60]⟩) w := fun w => by kernel_rfl
 go_enter Tryz.func119, Tryz.ntmps119
 go_wp2
 go_ret
 exact ⟨rfl, rfl⟩
set_option maxRecDepth 100000 in
set_option maxHeartbeats 2000000 in
theorem w_bi21 (w : World) : Calls Tryz.prog 119 #[.int .u8 42] w fun e w' => e = .returned (.string ⟨#[62, 62]⟩) ∧ w' = w := by
 have h : ∀ w, (Instr.index 168 (.agg #[.string ⟨#[43]⟩, .string ⟨#[45]⟩, .string ⟨#[42]⟩, .string ⟨#[47]⟩, .string ⟨#[37]⟩, .string ⟨#[42, 42]⟩, .string ⟨#[61, 61]⟩, .string ⟨#[33, 61]⟩, .string ⟨#[61, 61, 61]⟩, .string ⟨#[33, 61, 61]⟩, .string ⟨#[60]⟩, .string ⟨#[60, 61]⟩, .string ⟨#[62]⟩, .string ⟨#[62, 61]⟩, .string ⟨#[38, 38]⟩, .string ⟨#[124, 124]⟩, .string ⟨#[38]⟩, .string ⟨#[124]⟩, .string ⟨#[94]⟩, .string ⟨#[126, 94]⟩, .string ⟨#[60, 60]⟩, .string ⟨#[62, 62]⟩, .string ⟨#[60, 60, 60]⟩, .string ⟨#[62, 62, 62]⟩]) (.int .u8 21)).run Tryz.prog w = .ok (.string ⟨#[62, 62]⟩) w := fun w => by kernel_rfl
 go_enter Tryz.func119, Tryz.ntmps119
 go_wp2
 go_ret
 exact ⟨rfl, rfl⟩
set_option maxRecDepth 100000 in
set_option maxHeartbeats 2000000 in
theorem w_bi22 (w : World) : Calls Tryz.prog 119 #[.int .u8 43] w fun e w' => e = .returned (.string ⟨#[60, 60, 60]⟩) ∧ w' = w := by
 have h : ∀ w, (Instr.index 168 (.agg #[.string ⟨#[43]⟩, .string ⟨#[45]⟩, .string ⟨#[42]⟩, .string ⟨#[47]⟩, .string ⟨#[37]⟩, .string ⟨#[42, 42]⟩, .string ⟨#[61, 61]⟩, .string ⟨#[33, 61]⟩, .string ⟨#[61, 61, 61]⟩, .string ⟨#[33, 61, 61]⟩, .string ⟨#[60]⟩, .string ⟨#[60, 61]⟩, .string ⟨#[62]⟩, .string ⟨#[62, 61]⟩, .string ⟨#[38, 38]⟩, .string ⟨#[124, 124]⟩, .string ⟨#[38]⟩, .string ⟨#[124]⟩, .string ⟨#[94]⟩, .string ⟨#[126, 94]⟩, .string ⟨#[60, 60]⟩, .string ⟨#[62, 62]⟩, .string ⟨#[60, 60, 60]⟩, .string ⟨#[62, 62, 62]⟩]) (.int .u8 22)).run Tryz.prog w = .ok (.string ⟨#[60, 60, 60]⟩) w := fun w => by kernel_rfl
 go_enter Tryz.func119, Tryz.ntmps119
 go_wp2
 go_ret
 exact ⟨rfl, rfl⟩
set_option maxRecDepth 100000 in
set_option maxHeartbeats 2000000 in
theorem w_bi23 (w : World) : Calls Tryz.prog 119 #[.int .u8 44] w fun e w' => e = .returned (.string ⟨#[62, 62, 62]⟩) ∧ w' = w := by
 have h : ∀ w, (Instr.index 168 (.agg #[.string ⟨#[43]⟩, .string ⟨#[45]⟩, .string ⟨#[42]⟩, .string ⟨#[47]⟩, .string ⟨#[37]⟩, .string ⟨#[42, 42]⟩, .string ⟨#[61, 61]⟩, .string ⟨#[33, 61]⟩, .string ⟨#[61, 61, 61]⟩, .string ⟨#[33, 61, 61]⟩, .string ⟨#[60]⟩, .string ⟨#[60, 61]⟩, .string ⟨#[62]⟩, .string ⟨#[62, 61]⟩, .string ⟨#[38, 38]⟩, .string ⟨#[124, 124]⟩, .string ⟨#[38]⟩, .string ⟨#[124]⟩, .string ⟨#[94]⟩, .string ⟨#[126, 94]⟩, .string ⟨#[60, 60]⟩, .string ⟨#[62, 62]⟩, .string ⟨#[60, 60, 60]⟩, .string ⟨#[62, 62, 62]⟩]) (.int .u8 23)).run Tryz.prog w = .ok (.string ⟨#[62, 62, 62]⟩) w := fun w => by kernel_rfl
 go_enter Tryz.func119, Tryz.ntmps119
 go_wp2
 go_ret
 exact ⟨rfl, rfl⟩
def tab_bi : Tab := [(21, 1, 43), (22, 1, 45), (23, 1, 42), (24, 1, 47), (25, 1, 37), (26, 2, 10794), (27, 2, 15677), (28, 2, 15649), (29, 3, 4013373), (30, 3, 4013345), (31, 1, 60), (32, 2, 15676), (33, 1, 62), (34, 2, 15678), (35, 2, 9766), (36, 2, 31868), (37, 1, 38), (38, 1, 124), (39, 1, 94), (40, 2, 24190), (41, 2, 15420), (42, 2, 15934), (43, 3, 3947580), (44, 3, 4079166)]
theorem ws_bi : ∀ e ∈ tab_bi, ∀ w, Calls Tryz.prog 119 #[.int .u8 (e.1 : Int)] w fun e2 w' => e2 = .returned (.string (bstr e.2.1 e.2.2)) ∧ w' = w := by
 intro e he w
 simp only [tab_bi, List.mem_cons, List.not_mem_nil, or_false] at he
 rcases he with rfl | rfl | rfl | rfl | rfl | rfl | rfl | rfl | rfl | rfl | rfl | rfl | rfl | rfl | rfl | rfl | rfl | rfl | rfl | rfl | rfl | rfl | rfl | rfl
 ·exact w_bi0 w
 ·exact w_bi1 w
 ·exact w_bi2 w
 ·exact w_bi3 w
 ·exact w_bi4 w
 ·exact w_bi5 w
 ·exact w_bi6 w
 ·exact w_bi7 w
 ·exact w_bi8 w
 ·exact w_bi9 w
 ·exact w_bi10 w
 ·exact w_bi11 w
 ·exact w_bi12 w
 ·exact w_bi13 w
 ·exact w_bi14 w
 ·exact w_bi15 w
 ·exact w_bi16 w
 ·exact w_bi17 w
 ·exact w_bi18 w
 ·exact w_bi19 w
 ·exact w_bi20 w
 ·exact w_bi21 w
 ·exact w_bi22 w
 ·exact w_bi23 w
end Go.TM.K9
