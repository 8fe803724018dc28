/- The law ExprPrecedence: for every two numbers of a byte it returns true. -/
import Derived.Test.YtnjihnjonhmflaaGreatDoorP8L
import Derived.Test.YtnjihnjonhmflaaGreatDoorTmIn
import Derived.Test.YtnjihnjonhmflaaGreatDoorTmHand
import Derived.Test.YtnjihnjonhmflaaGreatDoorCards
import Derived.Test.YtnjihnjonhmflaaGreatDoorTie
import Derived.WalkKit
import Derived.ProofKit
import Derived.OpenShut
import Derived.Carry
import Derived.Deep.DeepHandedRow
import Derived.SevenTiedAt
set_option linter.all false
namespace Go.TM.P8
open Go Go.TM Go.Proofs
set_option maxRecDepth 1000000
theorem h0_0 (i j : Nat) : ((List.range 12).all fun k => tl (KG 0 0) i j 0 (0 + k)) = true := by kernel_rfl
theorem h0_12 (i j : Nat) : ((List.range 12).all fun k => tl (KG 0 12) i j 0 (12 + k)) = true := by kernel_rfl
theorem h1_0 (i j : Nat) : ((List.range 12).all fun k => tl (KG 1 0) i j 1 (0 + k)) = true := by kernel_rfl
theorem h1_12 (i j : Nat) : ((List.range 12).all fun k => tl (KG 1 12) i j 1 (12 + k)) = true := by kernel_rfl
theorem h2_0 (i j : Nat) : ((List.range 12).all fun k => tl (KG 2 0) i j 2 (0 + k)) = true := by kernel_rfl
theorem h2_12 (i j : Nat) : ((List.range 12).all fun k => tl (KG 2 12) i j 2 (12 + k)) = true := by kernel_rfl
theorem h3_0 (i j : Nat) : ((List.range 12).all fun k => tl (KG 3 0) i j 3 (0 + k)) = true := by kernel_rfl
theorem h3_12 (i j : Nat) : ((List.range 12).all fun k => tl (KG 3 12) i j 3 (12 + k)) = true := by kernel_rfl
theorem h4_0 (i j : Nat) : ((List.range 12).all fun k => tl (KG 4 0) i j 4 (0 + k)) = true := by kernel_rfl
theorem h4_12 (i j : Nat) : ((List.range 12).all fun k => tl (KG 4 12) i j 4 (12 + k)) = true := by kernel_rfl
theorem h5_0 (i j : Nat) : ((List.range 12).all fun k => tl (KG 5 0) i j 5 (0 + k)) = true := by kernel_rfl
theorem h5_12 (i j : Nat) : ((List.range 12).all fun k => tl (KG 5 12) i j 5 (12 + k)) = true := by kernel_rfl
end Go.TM.P8

namespace Go.TM.P8
open Go Go.TM Go.Proofs
set_option maxRecDepth 1000000
theorem h6_0 (i j : Nat) : ((List.range 12).all fun k => tl (KG 6 0) i j 6 (0 + k)) = true := by kernel_rfl
theorem h6_12 (i j : Nat) : ((List.range 12).all fun k => tl (KG 6 12) i j 6 (12 + k)) = true := by kernel_rfl
theorem h7_0 (i j : Nat) : ((List.range 12).all fun k => tl (KG 7 0) i j 7 (0 + k)) = true := by kernel_rfl
theorem h7_12 (i j : Nat) : ((List.range 12).all fun k => tl (KG 7 12) i j 7 (12 + k)) = true := by kernel_rfl
theorem h8_0 (i j : Nat) : ((List.range 12).all fun k => tl (KG 8 0) i j 8 (0 + k)) = true := by kernel_rfl
theorem h8_12 (i j : Nat) : ((List.range 12).all fun k => tl (KG 8 12) i j 8 (12 + k)) = true := by kernel_rfl
theorem h9_0 (i j : Nat) : ((List.range 12).all fun k => tl (KG 9 0) i j 9 (0 + k)) = true := by kernel_rfl
theorem h9_12 (i j : Nat) : ((List.range 12).all fun k => tl (KG 9 12) i j 9 (12 + k)) = true := by kernel_rfl
theorem h10_0 (i j : Nat) : ((List.range 12).all fun k => tl (KG 10 0) i j 10 (0 + k)) = true := by kernel_rfl
theorem h10_12 (i j : Nat) : ((List.range 12).all fun k => tl (KG 10 12) i j 10 (12 + k)) = true := by kernel_rfl
theorem h11_0 (i j : Nat) : ((List.range 12).all fun k => tl (KG 11 0) i j 11 (0 + k)) = true := by kernel_rfl
theorem h11_12 (i j : Nat) : ((List.range 12).all fun k => tl (KG 11 12) i j 11 (12 + k)) = true := by kernel_rfl
end Go.TM.P8

namespace Go.TM.P8
open Go Go.TM Go.Proofs
set_option maxRecDepth 1000000
theorem h12_0 (i j : Nat) : ((List.range 12).all fun k => tl (KG 12 0) i j 12 (0 + k)) = true := by kernel_rfl
theorem h12_12 (i j : Nat) : ((List.range 12).all fun k => tl (KG 12 12) i j 12 (12 + k)) = true := by kernel_rfl
theorem h13_0 (i j : Nat) : ((List.range 12).all fun k => tl (KG 13 0) i j 13 (0 + k)) = true := by kernel_rfl
theorem h13_12 (i j : Nat) : ((List.range 12).all fun k => tl (KG 13 12) i j 13 (12 + k)) = true := by kernel_rfl
theorem h14_0 (i j : Nat) : ((List.range 12).all fun k => tl (KG 14 0) i j 14 (0 + k)) = true := by kernel_rfl
theorem h14_12 (i j : Nat) : ((List.range 12).all fun k => tl (KG 14 12) i j 14 (12 + k)) = true := by kernel_rfl
theorem h15_0 (i j : Nat) : ((List.range 12).all fun k => tl (KG 15 0) i j 15 (0 + k)) = true := by kernel_rfl
theorem h15_12 (i j : Nat) : ((List.range 12).all fun k => tl (KG 15 12) i j 15 (12 + k)) = true := by kernel_rfl
theorem h16_0 (i j : Nat) : ((List.range 12).all fun k => tl (KG 16 0) i j 16 (0 + k)) = true := by kernel_rfl
theorem h16_12 (i j : Nat) : ((List.range 12).all fun k => tl (KG 16 12) i j 16 (12 + k)) = true := by kernel_rfl
theorem h17_0 (i j : Nat) : ((List.range 12).all fun k => tl (KG 17 0) i j 17 (0 + k)) = true := by kernel_rfl
theorem h17_12 (i j : Nat) : ((List.range 12).all fun k => tl (KG 17 12) i j 17 (12 + k)) = true := by kernel_rfl
end Go.TM.P8

namespace Go.TM.P8
open Go Go.TM Go.Proofs
set_option maxRecDepth 1000000
theorem h18_0 (i j : Nat) : ((List.range 12).all fun k => tl (KG 18 0) i j 18 (0 + k)) = true := by kernel_rfl
theorem h18_12 (i j : Nat) : ((List.range 12).all fun k => tl (KG 18 12) i j 18 (12 + k)) = true := by kernel_rfl
theorem h19_0 (i j : Nat) : ((List.range 12).all fun k => tl (KG 19 0) i j 19 (0 + k)) = true := by kernel_rfl
theorem h19_12 (i j : Nat) : ((List.range 12).all fun k => tl (KG 19 12) i j 19 (12 + k)) = true := by kernel_rfl
theorem h20_0 (i j : Nat) : ((List.range 12).all fun k => tl (KG 20 0) i j 20 (0 + k)) = true := by kernel_rfl
theorem h20_12 (i j : Nat) : ((List.range 12).all fun k => tl (KG 20 12) i j 20 (12 + k)) = true := by kernel_rfl
theorem h21_0 (i j : Nat) : ((List.range 12).all fun k => tl (KG 21 0) i j 21 (0 + k)) = true := by kernel_rfl
theorem h21_12 (i j : Nat) : ((List.range 12).all fun k => tl (KG 21 12) i j 21 (12 + k)) = true := by kernel_rfl
theorem h22_0 (i j : Nat) : ((List.range 12).all fun k => tl (KG 22 0) i j 22 (0 + k)) = true := by kernel_rfl
theorem h22_12 (i j : Nat) : ((List.range 12).all fun k => tl (KG 22 12) i j 22 (12 + k)) = true := by kernel_rfl
theorem h23_0 (i j : Nat) : ((List.range 12).all fun k => tl (KG 23 0) i j 23 (0 + k)) = true := by kernel_rfl
theorem h23_12 (i j : Nat) : ((List.range 12).all fun k => tl (KG 23 12) i j 23 (12 + k)) = true := by kernel_rfl
end Go.TM.P8

namespace Go.TM.P8
open Go Go.TM Go.Proofs
set_option linter.unusedVariables false
set_option maxRecDepth 1000000
theorem hAll (i j : Nat) : ∀ m, m < 24 → ((List.range 12).all fun k => tl (KG m 0) i j m (0 + k)) = true ∧ ((List.range 12).all fun k => tl (KG m 12) i j m (12 + k)) = true
 | 0, _ => ⟨h0_0 i j, h0_12 i j⟩
 | 1, _ => ⟨h1_0 i j, h1_12 i j⟩
 | 2, _ => ⟨h2_0 i j, h2_12 i j⟩
 | 3, _ => ⟨h3_0 i j, h3_12 i j⟩
 | 4, _ => ⟨h4_0 i j, h4_12 i j⟩
 | 5, _ => ⟨h5_0 i j, h5_12 i j⟩
 | 6, _ => ⟨h6_0 i j, h6_12 i j⟩
 | 7, _ => ⟨h7_0 i j, h7_12 i j⟩
 | 8, _ => ⟨h8_0 i j, h8_12 i j⟩
 | 9, _ => ⟨h9_0 i j, h9_12 i j⟩
 | 10, _ => ⟨h10_0 i j, h10_12 i j⟩
 | 11, _ => ⟨h11_0 i j, h11_12 i j⟩
 | 12, _ => ⟨h12_0 i j, h12_12 i j⟩
 | 13, _ => ⟨h13_0 i j, h13_12 i j⟩
 | 14, _ => ⟨h14_0 i j, h14_12 i j⟩
 | 15, _ => ⟨h15_0 i j, h15_12 i j⟩
 | 16, _ => ⟨h16_0 i j, h16_12 i j⟩
 | 17, _ => ⟨h17_0 i j, h17_12 i j⟩
 | 18, _ => ⟨h18_0 i j, h18_12 i j⟩
 | 19, _ => ⟨h19_0 i j, h19_12 i j⟩
 | 20, _ => ⟨h20_0 i j, h20_12 i j⟩
 | 21, _ => ⟨h21_0 i j, h21_12 i j⟩
 | 22, _ => ⟨h22_0 i j, h22_12 i j⟩
 | 23, _ => ⟨h23_0 i j, h23_12 i j⟩
 | m + 24, h => absurd h (by omega)
theorem c_lawN (i j : Nat) : callF E 0 3 [.sc (.int .u8 (i : Int)), .sc (.int .u8 (j : Int))] emp = some (.sc (.bool true), emp) := by
 have hm : i % 24 < 24 := Nat.mod_lt _ (by decide)
 have hn : j % 24 < 24 := Nat.mod_lt _ (by decide)
 have hh := l_head i j (i % 24) (j % 24) (b_rem .u8 i 24 (by decide)) (b_rem .u8 j 24 (by decide))
 unfold R at hh
 rw [RM_nil] at hh
 obtain ⟨g1, g2⟩ := gAll _ hm
 obtain ⟨t1, t2⟩ := hAll i j _ hm
 rcases Nat.lt_or_ge (j % 24) 12 with h | h
 ·have := List.all_eq_true.1 t1 (j % 24) (List.mem_range.2 h)
  rw [Nat.zero_add] at this
  exact tl_t (kG g1) this hh
 ·have := List.all_eq_true.1 t2 (j % 24 - 12) (List.mem_range.2 (by omega))
  rw [Nat.add_sub_cancel' h] at this
  exact tl_t (kG g2) this hh
theorem c_law (i j : Int) (hi : 0 ≤ i) (hj : 0 ≤ j) : callF E 0 3 [.sc (.int .u8 i), .sc (.int .u8 j)] emp = some (.sc (.bool true), emp) := by
 have := c_lawN i.toNat j.toNat
 rwa [Int.toNat_of_nonneg hi, Int.toNat_of_nonneg hj] at this
end Go.TM.P8

namespace Go.Proofs.YtnjihnjonhmflaaGreatDoor
open Go Go.TM Go.TM.P8
open Go.ChangeShapes Go.WideShapes Go.ChangeAt Go.RowKit
set_option linter.unusedVariables false
set_option maxRecDepth 1000000


theorem byteOf {W : World} {base : Nat} {v : Value} (h0 : Value.okWide Tryz.prog W .any base 5 v) : ∃ i : Int, v = .int .u8 i ∧ 0 ≤ i := by
 unfold Value.okWide at h0
 rw [Tryz.underlying5] at h0
 replace h0 : Cell.okWide Tryz.prog W .any base 5 v := h0
 unfold Cell.okWide at h0
 rw [Tryz.underlying5] at h0
 cases v with
 | int k b => simp only [Cell.ok, Tryz.underlying5] at h0; obtain ⟨rfl, h1⟩ := h0; exact ⟨b, rfl, h1.1⟩
 | _ => simp only [Cell.ok, Tryz.underlying5] at h0
theorem walk (s0 : Int) (gs0 : 0 ≤ s0) (s1 : Int) (gs1 : 0 ≤ s1) (W : World) (hm : ∃ m, W.cell? ⟨0, 0, none⟩ = some (.int .i64 m)) : Calls Tryz.prog 3 #[.int .u8 s0, .int .u8 s1] W fun e w' => e = .returned (.bool true) ∧ Below W.heap.size W w' := by
 have hlt : 0 < W.heap.size := by
  obtain ⟨m, hm⟩ := hm
  rcases Nat.lt_or_ge 0 W.heap.size with h | h
  ·exact h
  ·simp [World.cell?, Array.getElem?_eq_none h] at hm
 refine calls_in (vs := [.int .u8 s0, .int .u8 s1]) (γ := P8.gam) (E := P8.E) rfl xok P8.ngok (c_law s0 s1 gs0 gs1) W ⟨hm, fun b hb => ?_⟩ (.cons _ _ _ _ (.sc _ rfl) (.cons _ _ _ _ (.sc _ rfl) .nil))
 have : b = 0 := hb
 subst this; exact hlt
theorem own : ownKnob Tryz.prog.godebug = none := by kernel_rfl
theorem met (os : Os) : laidMetH Tryz.prog Rows.exprPrecedenceRow.laid ((World.doorLaid Tryz.prog 4000 os).forCall (fun _ _ => 0) ⟨#[], #[.int .u8 0, .int .u8 0], []⟩).memory :=
 laidMetH_of_parts3 (fuel := 8) (laidMet_of_run' 70 (by kernel_rfl) (by kernel_rfl)) (by kernel_rfl) (by kernel_rfl)
theorem laidOut : laidOutB Tryz.prog = true := by kernel_rfl

theorem lifted (os : Os) (started : os.Started) (H : Type) (enc : TypeId × Value → H) :
  ReturnsInHanded {} Tryz.checked os 3 .any (fun w args => (Rows.exprPrecedenceSpec.pre enc Tryz.prog Tryz.f3 Rows.exprPrecedenceRow.domain false w args ∧ laidMetH Tryz.prog Rows.exprPrecedenceRow.laid w) ∧ sizedMet enc Tryz.prog Tryz.f3 (OpenSpec.ofChange Rows.exprPrecedenceSpec) false w args)
   (Rows.exprPrecedenceSpec.post enc Tryz.prog Tryz.f3 false true false false) := by
 refine handed_both (C := Tryz.checked) (X := fun w _ => laidMetH Tryz.prog Rows.exprPrecedenceRow.laid w) (fun _ _ _ hh h => h.of_heap hh) own started (by kernel_rfl) Tryz.func3
  (ChangeSpec.witness_shaped (enc := enc) (C := Tryz.checked) (os := os) (X := fun w _ => laidMetH Tryz.prog Rows.exprPrecedenceRow.laid w) false (World.doorLaid Tryz.prog 4000 os) #[.int .u8 0, .int .u8 0] 8 rfl (World.shaped_of_RefB (by kernel_rfl) (by kernel_rfl)) (by kernel_rfl) (by kernel_rfl) (by kernel_rfl) (met os)) ?_
 intro W base args ds gs before hval hW _ _ hsh
 have hW' := hW
 obtain ⟨p, q, hA0, hV, rfl, hfz, hnd⟩ := hW
 have hA : DataW.TrodAll enc Tryz.prog W 0 (fun _ => true) true Tryz.f3.params.toList args.toList ds p := hA0
 rw [Tryz.params3] at hA hval
 obtain ⟨v0, v1, d0, d1, p0, p1, rfl, rfl, rfl, h0, h1⟩ := trodAll_two hA
 obtain ⟨rfl, rfl⟩ := trodVars_none hV
 obtain ⟨s0, rfl, gs0⟩ := byteOf (hval 0 5 v0 rfl rfl)
 obtain ⟨s1, rfl, gs1⟩ := byteOf (hval 1 5 v1 rfl rfl)
 obtain ⟨n0, t0⟩ := h0
 obtain ⟨n1, t1⟩ := h1
 have lt0 : ∀ z ∈ p0, z.block < W.heap.size := DataW.trod_lt n0 _ _ _ t0
 have lt1 : ∀ z ∈ p1, z.block < W.heap.size := DataW.trod_lt n1 _ _ _ t1
 refine (walk s0 gs0 s1 gs1 W (Tryz.laysM143.s1_3 W hsh)).mono fun e W' ⟨he, bel⟩ => ?_
 subst he
 refine ⟨_, rfl, _, _, _, [], _, [], hW', trodAll_mk1 (shut_bool Tryz.underlying4 _), trodAll_mk2 (Below.trod laidOut (by kernel_rfl) (of_decide_eq_true (by kernel_rfl)) ⟨n0, t0⟩ bel lt0) (Below.trod laidOut (by kernel_rfl) (of_decide_eq_true (by kernel_rfl)) ⟨n1, t1⟩ bel lt1), rfl, bel.frame _, fun h => by cases h⟩
theorem exprPrecedence_row : Rows.ExprPrecedenceSaid :=
 OpenClaim.holds_of_wide 3 Tryz.f3 rfl rfl rfl rfl rfl rfl rfl ⟨rfl, rfl, rfl, rfl, rfl⟩ rfl rfl rfl rfl rfl (by kernel_rfl) Tryz.func3 (by kernel_rfl)
  (of_decide_eq_true (by kernel_rfl)) (by unfold Func.isWrapper; first | (rw [if_pos (by decide +kernel)]; kernel_rfl) | (rw [if_neg (by decide +kernel)]; exact ⟨rfl, rfl⟩))
  (fun os started H enc _ => lifted os started H enc)
theorem exprPrecedence_holds : Rows.ExprPrecedenceCardSaid :=
 Claim7.holds_tied_plain_at .later [] _ _ _ _ exprPrecedence_row (fun _ h => by cases h) (by kernel_rfl) (fun _ h => by cases h) exprPrecedence_row_tie rfl ⟨rfl, rfl⟩ (by kernel_rfl) rfl
  (fun f fn hf hfn => by
   obtain rfl : f = 3 := Option.some.inj ((show Tryz.prog.funcNamed "netlab/netlablaw08.ExprPrecedence" = some 3 by kernel_rfl).symm.trans hf) |>.symm
   obtain rfl : fn = Tryz.f3 := (Option.some.inj (Tryz.func3.symm.trans hfn)).symm
   refine ⟨by kernel_rfl, fun j t ht => ?_⟩
   rw [Tryz.params3] at ht
   obtain rfl : t = 5 := by
    have := Array.mem_of_getElem? ht
    simp at this
    omega
   exact (show Tryz.prog.wantsStandIn 5 = false by kernel_rfl))
  (by kernel_rfl)
#print axioms exprPrecedence_holds
end Go.Proofs.YtnjihnjonhmflaaGreatDoor
