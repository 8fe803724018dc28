/- The law StmtExamples: it takes nothing and returns true, whatever the memory: the run of the whole call, in the kernel. -/
import Derived.Test.YtckfkjeonnnemaaGreatDoorT9KS4
import Derived.Test.YtckfkjeonnnemaaGreatDoorTmHand
import Derived.Test.YtckfkjeonnnemaaGreatDoorTmKm
import Derived.Test.YtckfkjeonnnemaaGreatDoorCards
import Derived.Test.YtckfkjeonnnemaaGreatDoorTie
import Derived.WalkKit
import Derived.ProofKit
import Derived.SevenTiedAt
import Derived.Lib.LaidTab
import Derived.LaidSub
import Derived.MakeChecks
set_option linter.all false
namespace Go.Proofs.YtckfkjeonnnemaaGreatDoor
open Go Go.TM Go.TM.K9
open Go.ChangeShapes Go.WideShapes Go.ChangeAt Go.RowKit
set_option linter.unusedVariables false
set_option maxRecDepth 1000000

noncomputable def isT (o : Option An) : Bool := match o with
 | some (.b true, _) => true
 | _ => false
theorem isT_eq {o : Option An} (h : isT o = true) : ∃ S, o = some (.b true, S) := by
 unfold isT at h
 split at h
 ·exact ⟨_, rfl⟩
 ·cases h

theorem runs : isT (runK KS4 1000 3 []) = true := by kernel_rfl
theorem comes : ∃ S, callF E 0 3 [] emp = some (.sc (.bool true), S) := by
 obtain ⟨S, h⟩ := isT_eq runs
 have := runK_t kokS4 h
 exact ⟨_, by simpa only [V.tL, V.t] using this⟩
theorem own : ownKnob Tryz.prog.godebug = none := by kernel_rfl
theorem walk (w : World) (h : w.ShapedOpen Tryz.prog) (ht : Lib.TabIs Tryz.prog w "internal/strconv.uint64pow10" .u64 Lib.pow10Tab) : Calls Tryz.prog 3 #[] w fun e w' => e = .returned (.bool true) ∧ Below w.heap.size w w' := by
 obtain ⟨S, hc⟩ := comes
 exact calls_of hc w (Tryz.laysM143.s1_3 w h) ht
theorem met (os : Os) : laidMetH Tryz.prog Rows.stmtExamplesRow.laid ((World.doorLaid Tryz.prog 4000 os).forCall (fun _ _ => 0) ⟨#[], #[], []⟩).memory :=
 laidMetH_of_parts3 (fuel := 8) (laidMet_of_run' 70 (by kernel_rfl) (by kernel_rfl)) (by kernel_rfl) (by kernel_rfl)

theorem tabLaid : (Rows.stmtExamplesRow.laid.filter fun x => x.1 == "internal/strconv.uint64pow10") = [("internal/strconv.uint64pow10", Lib.tabData .u64 Lib.pow10Tab)] := by kernel_rfl
theorem tabOf {W : World} (h : laidMetH Tryz.prog Rows.stmtExamplesRow.laid W) : Lib.TabIs Tryz.prog W "internal/strconv.uint64pow10" .u64 Lib.pow10Tab := by
 have h1 := h.filter (fun x => x.1 == "internal/strconv.uint64pow10")
 rw [tabLaid, Go.MakeChecks.laidMetH_plain _ _ _ (by kernel_rfl)] at h1
 exact Lib.tabIs_of_head gT (by kernel_rfl) Tryz.underlying191 Tryz.underlying175 (by kernel_rfl) (by kernel_rfl) h1
theorem lifted (os : Os) (started : os.Started) (H : Type) (enc : TypeId × Value → H) :
  ReturnsInHanded {} Tryz.checked os 3 .any (fun w args => (Rows.stmtExamplesSpec.pre enc Tryz.prog Tryz.f3 Rows.stmtExamplesRow.domain false w args ∧ laidMetH Tryz.prog Rows.stmtExamplesRow.laid w) ∧ sizedMet enc Tryz.prog Tryz.f3 (OpenSpec.ofChange Rows.stmtExamplesSpec) false w args)
   (Rows.stmtExamplesSpec.post enc Tryz.prog Tryz.f3 false true false false) := by
 refine handed_both (C := Tryz.checked) (X := fun w _ => laidMetH Tryz.prog Rows.stmtExamplesRow.laid w) (fun _ _ _ hh h => h.of_heap hh) own started (by kernel_rfl) Tryz.func3
  (ChangeSpec.witness_shaped (enc := enc) (C := Tryz.checked) (os := os) (X := fun w _ => laidMetH Tryz.prog Rows.stmtExamplesRow.laid w) false (World.doorLaid Tryz.prog 4000 os) #[] 8 rfl (World.shaped_of_RefB (by kernel_rfl) (by kernel_rfl)) (by kernel_rfl) (by kernel_rfl) (by kernel_rfl) (met os)) ?_
 intro W base args ds gs before hval hW _ hX hsh
 have ht := tabOf hX
 have hW' := hW
 obtain ⟨p, q, hA0, hV, rfl, hfz, hnd⟩ := hW
 have hA : DataW.TrodAll enc Tryz.prog W 0 (fun _ => true) true Tryz.f3.params.toList args.toList ds p := hA0
 rw [Tryz.params3] at hA
 obtain ⟨hargs, rfl, rfl⟩ := trodAll_none hA
 obtain rfl : args = #[] := by cases args; simp_all
 obtain ⟨rfl, rfl⟩ := trodVars_none hV
 refine (walk W hsh ht).mono fun e W' ⟨he, bel⟩ => ?_
 subst he
 exact ⟨_, rfl, _, _, _, [], _, [], hW', trodAll_mk1 (shut_bool Tryz.underlying4 _), trodAll_mk0, rfl, bel.frame _, fun h => by cases h⟩
theorem stmtExamples_row : Rows.StmtExamplesSaid :=
 OpenClaim.holds_of_wide 3 Tryz.f3 rfl rfl rfl rfl rfl rfl rfl ⟨rfl, rfl, rfl, rfl, rfl⟩ rfl rfl rfl rfl rfl (by kernel_rfl) Tryz.func3 (by kernel_rfl)
  (of_decide_eq_true (by kernel_rfl)) (by unfold Func.isWrapper; first | (rw [if_pos (by decide +kernel)]; kernel_rfl) | (rw [if_neg (by decide +kernel)]; exact ⟨rfl, rfl⟩))
  (fun os started H enc _ => lifted os started H enc)
theorem stmtExamples_holds : Rows.StmtExamplesCardSaid :=
 Claim7.holds_tied_plain_at .later [] [.data, .data, .data] true (true, "c44fff2da6478d372223b6abbbd9d339c648a0e900be87000e7117bebf484dc9") false
  stmtExamples_row (fun _ h => by cases h) (by kernel_rfl) (fun _ h => by cases h) stmtExamples_row_tie rfl ⟨rfl, rfl⟩ (by kernel_rfl) rfl
  (fun f fn hf hfn => by
   obtain rfl : f = 3 := Option.some.inj ((show Tryz.prog.funcNamed "netlab/netlablaw09.StmtExamples" = some 3 by kernel_rfl).symm.trans hf) |>.symm
   obtain rfl : fn = Tryz.f3 := (Option.some.inj (Tryz.func3.symm.trans hfn)).symm
   exact ⟨by kernel_rfl, fun j t ht => by
    rw [Tryz.params3] at ht
    simp at ht⟩)
  (by kernel_rfl)
#print axioms stmtExamples_holds
end Go.Proofs.YtckfkjeonnnemaaGreatDoor
