/- The law ExprExamples: it takes nothing and returns true, whatever the memory: the run of the whole call, in the kernel. -/
import Derived.Test.YtnjihnjonhmflaaGreatDoorT8KM20
import Derived.Test.YtnjihnjonhmflaaGreatDoorT8KM21
import Derived.Test.YtnjihnjonhmflaaGreatDoorT8KM22
import Derived.Test.YtnjihnjonhmflaaGreatDoorT8KS1
import Derived.Test.YtnjihnjonhmflaaGreatDoorTmHand
import Derived.Test.YtnjihnjonhmflaaGreatDoorTmKm
import Derived.Test.YtnjihnjonhmflaaGreatDoorCards
import Derived.Test.YtnjihnjonhmflaaGreatDoorTie
import Derived.WalkKit
import Derived.ProofKit
import Derived.SevenTiedAt
set_option linter.all false
namespace Go.TM.K8
open Go Go.TM
set_option linter.unusedVariables false
set_option maxRecDepth 1000000
noncomputable def KS2 : KE := (useM (useM (useM (useM (useM (useM (useM (useM KS1 256 M2_0) 256 M2_1) 256 M2_2) 256 M2_3) 256 M2_4) 256 M2_5) 256 M2_6) 32 M2_7)
theorem kokS2 : KEOk KS2 E := (useM_ok (useM_ok (useM_ok (useM_ok (useM_ok (useM_ok (useM_ok (useM_ok kokS1 tM2_0) tM2_1) tM2_2) tM2_3) tM2_4) tM2_5) tM2_6) tM2_7)
end Go.TM.K8

namespace Go.Proofs.YtnjihnjonhmflaaGreatDoor
open Go Go.TM Go.TM.K8
open Go.ChangeShapes Go.WideShapes Go.ChangeAt Go.RowKit
set_option linter.unusedVariables false
set_option maxRecDepth 1000000

noncomputable def isT (o : Option An) : Bool := match o with
  | some (.b true, _) => true
  | _ => false
theorem isT_eq {o : Option An} (h : isT o = true) : ∃ S, o = some (.b true, S) := by
  unfold isT at h
  split at h
  · exact ⟨_, rfl⟩
  · cases h

theorem runs : isT (runK KS2 1000 4 []) = true := by kernel_rfl
theorem comes : ∃ S, callF E 0 4 [] emp = some (.sc (.bool true), S) := by
  obtain ⟨S, h⟩ := isT_eq runs
  have := runK_t kokS2 h
  exact ⟨_, by simpa only [V.tL, V.t] using this⟩
theorem own : ownKnob Tryz.prog.godebug = none := by kernel_rfl
theorem walk (w : World) (h : w.ShapedOpen Tryz.prog) : Calls Tryz.prog 4 #[] w fun e w' => e = .returned (.bool true) ∧ Below w.heap.size w w' := by
  obtain ⟨S, hc⟩ := comes
  exact calls_of hc w (Tryz.laysM143.s1_3 w h)
theorem met (os : Os) : laidMetH Tryz.prog Rows.exprExamplesRow.laid ((World.doorLaid Tryz.prog 4000 os).forCall (fun _ _ => 0) ⟨#[], #[], []⟩).memory :=
  laidMetH_of_parts3 (fuel := 8) (laidMet_of_run' 70 (by kernel_rfl) (by kernel_rfl)) (by kernel_rfl) (by kernel_rfl)

theorem lifted (os : Os) (started : os.Started) (H : Type) (enc : TypeId × Value → H) :
    ReturnsInHanded {} Tryz.checked os 4 .any (fun w args => (Rows.exprExamplesSpec.pre enc Tryz.prog Tryz.f4 Rows.exprExamplesRow.domain false w args ∧ laidMetH Tryz.prog Rows.exprExamplesRow.laid w) ∧ sizedMet enc Tryz.prog Tryz.f4 (OpenSpec.ofChange Rows.exprExamplesSpec) false w args)
      (Rows.exprExamplesSpec.post enc Tryz.prog Tryz.f4 false true false false) := by
  refine handed_both (C := Tryz.checked) (X := fun w _ => laidMetH Tryz.prog Rows.exprExamplesRow.laid w) (fun _ _ _ hh h => h.of_heap hh) own started (by kernel_rfl) Tryz.func4
    (ChangeSpec.witness_shaped (enc := enc) (C := Tryz.checked) (os := os) (X := fun w _ => laidMetH Tryz.prog Rows.exprExamplesRow.laid w) false (World.doorLaid Tryz.prog 4000 os) #[] 8 rfl (World.shaped_of_RefB (by kernel_rfl) (by kernel_rfl)) (by kernel_rfl) (by kernel_rfl) (by kernel_rfl) (met os)) ?_
  intro W base args ds gs before hval hW _ _ hsh
  have hW' := hW
  obtain ⟨p, q, hA0, hV, rfl, hfz, hnd⟩ := hW
  have hA : DataW.TrodAll enc Tryz.prog W 0 (fun _ => true) true Tryz.f4.params.toList args.toList ds p := hA0
  rw [Tryz.params4] at hA
  obtain ⟨hargs, rfl, rfl⟩ := trodAll_none hA
  obtain rfl : args = #[] := by cases args; simp_all
  obtain ⟨rfl, rfl⟩ := trodVars_none hV
  refine (walk W hsh).mono fun e W' ⟨he, bel⟩ => ?_
  subst he
  exact ⟨_, rfl, _, _, _, [], _, [], hW', trodAll_mk1 (shut_bool Tryz.underlying4 _), trodAll_mk0, rfl, bel.frame _, fun h => by cases h⟩
theorem exprExamples_row : Rows.ExprExamplesSaid :=
  OpenClaim.holds_of_wide 4 Tryz.f4 rfl rfl rfl rfl rfl rfl rfl ⟨rfl, rfl, rfl, rfl, rfl⟩ rfl rfl rfl rfl rfl (by kernel_rfl) Tryz.func4 (by kernel_rfl)
    (of_decide_eq_true (by kernel_rfl)) (by unfold Func.isWrapper; first | (rw [if_pos (by decide +kernel)]; kernel_rfl) | (rw [if_neg (by decide +kernel)]; exact ⟨rfl, rfl⟩))
    (fun os started H enc _ => lifted os started H enc)
theorem exprExamples_holds : Rows.ExprExamplesCardSaid :=
  Claim7.holds_tied_plain_at .later [] [.data, .data, .data] true (true, "b399b0eb16add630c85f34b38e91e6d3618e933f6e904959f4fb53729c6c4076") false
    exprExamples_row (fun _ h => by cases h) (by kernel_rfl) (fun _ h => by cases h) exprExamples_row_tie rfl ⟨rfl, rfl⟩ (by kernel_rfl) rfl
    (fun f fn hf hfn => by
      obtain rfl : f = 4 := Option.some.inj ((show Tryz.prog.funcNamed "netlab/netlablaw08.ExprExamples" = some 4 by kernel_rfl).symm.trans hf) |>.symm
      obtain rfl : fn = Tryz.f4 := (Option.some.inj (Tryz.func4.symm.trans hfn)).symm
      exact ⟨by kernel_rfl, fun j t ht => by
        rw [Tryz.params4] at ht
        simp at ht⟩)
    (by kernel_rfl)
#print axioms exprExamples_holds
end Go.Proofs.YtnjihnjonhmflaaGreatDoor
