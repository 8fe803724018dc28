/- The law TokenExamples: it takes nothing and returns true, whatever the memory: the run of the whole call, in the kernel. -/
import Derived.Test.YtioldkniiilhnaaGreatDoorT7KX
import Derived.Test.YtioldkniiilhnaaGreatDoorTmHand
import Derived.Test.YtioldkniiilhnaaGreatDoorCards
import Derived.Test.YtioldkniiilhnaaGreatDoorTie
import Derived.WalkKit
import Derived.ProofKit
import Derived.SevenTiedAt
set_option linter.all false
namespace Go.Proofs.YtioldkniiilhnaaGreatDoor
open Go Go.TM Go.TM.K7
open Go.ChangeShapes Go.WideShapes Go.ChangeAt Go.RowKit
set_option linter.unusedVariables false
set_option maxRecDepth 1000000

noncomputable def isT (o : Option An) : Bool := match o with
  | some (.b true, _) => true
  | _ => false
theorem isT_eq {o : Option An} (h : isT o = true) : ∃ S, o = some (.b true, S) := by
  unfold isT at h
  split at h
  · exact ⟨_, rfl⟩
  · cases h
theorem runs : isT (runK K0 1000 11 []) = true := by kernel_rfl
theorem comes : ∃ S, callF E 0 11 [] emp = some (.sc (.bool true), S) := by
  obtain ⟨S, h⟩ := isT_eq runs
  have := runK_t kok h
  exact ⟨_, by simpa only [V.tL, V.t] using this⟩
theorem own : ownKnob Tryz.prog.godebug = none := by kernel_rfl
theorem walk (w : World) (h : w.ShapedOpen Tryz.prog) : Calls Tryz.prog 11 #[] w fun e w' => e = .returned (.bool true) ∧ Below w.heap.size w w' := by
  obtain ⟨S, hc⟩ := comes
  exact calls_of hc w (Tryz.laysM143.s1_3 w h)
theorem met (os : Os) : laidMetH Tryz.prog Rows.tokenExamplesRow.laid ((World.doorLaid Tryz.prog 4000 os).forCall (fun _ _ => 0) ⟨#[], #[], []⟩).memory :=
  laidMetH_of_parts3 (fuel := 8) (laidMet_of_run' 70 (by kernel_rfl) (by kernel_rfl)) (by kernel_rfl) (by kernel_rfl)

theorem lifted (os : Os) (started : os.Started) (H : Type) (enc : TypeId × Value → H) :
    ReturnsInHanded {} Tryz.checked os 11 .any (fun w args => (Rows.tokenExamplesSpec.pre enc Tryz.prog Tryz.f11 Rows.tokenExamplesRow.domain false w args ∧ laidMetH Tryz.prog Rows.tokenExamplesRow.laid w) ∧ sizedMet enc Tryz.prog Tryz.f11 (OpenSpec.ofChange Rows.tokenExamplesSpec) false w args)
      (Rows.tokenExamplesSpec.post enc Tryz.prog Tryz.f11 false true false false) := by
  refine handed_both (C := Tryz.checked) (X := fun w _ => laidMetH Tryz.prog Rows.tokenExamplesRow.laid w) (fun _ _ _ hh h => h.of_heap hh) own started (by kernel_rfl) Tryz.func11
    (ChangeSpec.witness_shaped (enc := enc) (C := Tryz.checked) (os := os) (X := fun w _ => laidMetH Tryz.prog Rows.tokenExamplesRow.laid w) false (World.doorLaid Tryz.prog 4000 os) #[] 8 rfl (World.shaped_of_RefB (by kernel_rfl) (by kernel_rfl)) (by kernel_rfl) (by kernel_rfl) (by kernel_rfl) (met os)) ?_
  intro W base args ds gs before hval hW _ _ hsh
  have hW' := hW
  obtain ⟨p, q, hA0, hV, rfl, hfz, hnd⟩ := hW
  have hA : DataW.TrodAll enc Tryz.prog W 0 (fun _ => true) true Tryz.f11.params.toList args.toList ds p := hA0
  rw [Tryz.params11] at hA
  obtain ⟨hargs, rfl, rfl⟩ := trodAll_none hA
  obtain rfl : args = #[] := by cases args; simp_all
  obtain ⟨rfl, rfl⟩ := trodVars_none hV
  refine (walk W hsh).mono fun e W' ⟨he, bel⟩ => ?_
  subst he
  exact ⟨_, rfl, _, _, _, [], _, [], hW', trodAll_mk1 (shut_bool Tryz.underlying4 _), trodAll_mk0, rfl, bel.frame _, fun h => by cases h⟩
theorem tokenExamples_row : Rows.TokenExamplesSaid :=
  OpenClaim.holds_of_wide 11 Tryz.f11 rfl rfl rfl rfl rfl rfl rfl ⟨rfl, rfl, rfl, rfl, rfl⟩ rfl rfl rfl rfl rfl (by kernel_rfl) Tryz.func11 (by kernel_rfl)
    (of_decide_eq_true (by kernel_rfl)) (by unfold Func.isWrapper; first | (rw [if_pos (by decide +kernel)]; kernel_rfl) | (rw [if_neg (by decide +kernel)]; exact ⟨rfl, rfl⟩))
    (fun os started H enc _ => lifted os started H enc)
theorem tokenExamples_holds : Rows.TokenExamplesCardSaid :=
  Claim7.holds_tied_plain_at .later [] [.data, .data, .data] true (true, "e3d0bcc91e443b14f99d4a920a4874b8c13e28cdbb9ad2cacbcff48449a2f458") false
    tokenExamples_row (fun _ h => by cases h) (by kernel_rfl) (fun _ h => by cases h) tokenExamples_row_tie rfl ⟨rfl, rfl⟩ (by kernel_rfl) rfl
    (fun f fn hf hfn => by
      obtain rfl : f = 11 := Option.some.inj ((show Tryz.prog.funcNamed "netlab/netlablaw07.TokenExamples" = some 11 by kernel_rfl).symm.trans hf) |>.symm
      obtain rfl : fn = Tryz.f11 := (Option.some.inj (Tryz.func11.symm.trans hfn)).symm
      exact ⟨by kernel_rfl, fun j t ht => by
        rw [Tryz.params11] at ht
        simp at ht⟩)
    (by kernel_rfl)
#print axioms tokenExamples_holds
end Go.Proofs.YtioldkniiilhnaaGreatDoor
