/- The law TokenConcatenates: for every two texts it returns true. -/
import Derived.Test.YtioldkniiilhnaaGreatDoorR7A
import Derived.Test.YtioldkniiilhnaaGreatDoorTmIn
import Derived.Test.YtioldkniiilhnaaGreatDoorA7Aw
import Derived.Test.YtioldkniiilhnaaGreatDoorTmHand
import Derived.Test.YtioldkniiilhnaaGreatDoorCards
import Derived.Test.YtioldkniiilhnaaGreatDoorTie
import Derived.WalkKit
import Derived.ProofKit
import Derived.OpenShut
import Derived.Carry
import Derived.Deep.DeepHandedRow
import Derived.SevenTiedAt
set_option linter.all false
namespace Go.Proofs.YtioldkniiilhnaaGreatDoor
open Go Go.TM Go.TM.R7
open Go.ChangeShapes Go.WideShapes Go.ChangeAt Go.RowKit
set_option linter.unusedVariables false
set_option maxRecDepth 1000000

theorem xok : XOk Tryz.prog A7.gam XR := by
  intro f g h
  unfold XR at h
  split at h
  · rename_i e
    simp only [Option.some.injEq] at h
    subst e; subst h
    refine ⟨⟨Tryz.f13, Tryz.func13, by kernel_rfl, by kernel_rfl⟩, fun args r h _ _ L c vs _ hg hr => ?_⟩
    unfold XAw at h
    split at h
    · simp only [Option.some.injEq] at h
      subst h
      cases hr
      exact (A7.awake_calls _ hg.1).mono fun e w' h => A7.post_below rfl h
    · cases h
  split at h
  · rename_i e
    simp only [Option.some.injEq] at h
    subst e; subst h; exact A7.x_ib
  split at h
  · rename_i e
    simp only [Option.some.injEq] at h
    subst e; subst h; exact A7.x_ix
  cases h
theorem strOf {W : World} {base : Nat} {v : Value} (h0 : Value.okWide Tryz.prog W .any base 9 v) : ∃ s : List UInt8, v = str s := by
  unfold Value.okWide at h0
  rw [Tryz.underlying9] at h0
  replace h0 : Cell.okWide Tryz.prog W .any base 9 v := h0
  unfold Cell.okWide at h0
  rw [Tryz.underlying9] at h0
  cases v with
  | string b => exact ⟨b.data.toList, rfl⟩
  | _ => simp only [Cell.ok, Tryz.underlying9] at h0
theorem walk (s0 : List UInt8) (s1 : List UInt8) (W : World) (hm : ∃ m, W.cell? ⟨0, 0, none⟩ = some (.int .i64 m)) : Calls Tryz.prog 6 #[str s0, str s1] W fun e w' => e = .returned (.bool true) ∧ Below W.heap.size W w' := by
  have hlt : 0 < W.heap.size := by
    obtain ⟨m, hm⟩ := hm
    rcases Nat.lt_or_ge 0 W.heap.size with h | h
    · exact h
    · simp [World.cell?, Array.getElem?_eq_none h] at hm
  refine calls_in (vs := [str s0, str s1]) (γ := A7.gam) (E := R7.E) rfl xok A7.ngok (c_concat s0 s1) W ⟨hm, fun b hb => ?_⟩ (.cons _ _ _ _ (.sc _ rfl) (.cons _ _ _ _ (.sc _ rfl) .nil))
  have : b = 0 := hb
  subst this; exact hlt
theorem own : ownKnob Tryz.prog.godebug = none := by kernel_rfl
theorem met (os : Os) : laidMetH Tryz.prog Rows.tokenConcatenatesRow.laid ((World.doorLaid Tryz.prog 4000 os).forCall (fun _ _ => 0) ⟨#[], #[str [], str []], []⟩).memory :=
  laidMetH_of_parts3 (fuel := 8) (laidMet_of_run' 70 (by kernel_rfl) (by kernel_rfl)) (by kernel_rfl) (by kernel_rfl)
theorem laidOut : laidOutB Tryz.prog = true := by kernel_rfl

theorem lifted (os : Os) (started : os.Started) (H : Type) (enc : TypeId × Value → H) :
    ReturnsInHanded {} Tryz.checked os 6 .any (fun w args => (Rows.tokenConcatenatesSpec.pre enc Tryz.prog Tryz.f6 Rows.tokenConcatenatesRow.domain false w args ∧ laidMetH Tryz.prog Rows.tokenConcatenatesRow.laid w) ∧ sizedMet enc Tryz.prog Tryz.f6 (OpenSpec.ofChange Rows.tokenConcatenatesSpec) false w args)
      (Rows.tokenConcatenatesSpec.post enc Tryz.prog Tryz.f6 false true false false) := by
  refine handed_both (C := Tryz.checked) (X := fun w _ => laidMetH Tryz.prog Rows.tokenConcatenatesRow.laid w) (fun _ _ _ hh h => h.of_heap hh) own started (by kernel_rfl) Tryz.func6
    (ChangeSpec.witness_shaped (enc := enc) (C := Tryz.checked) (os := os) (X := fun w _ => laidMetH Tryz.prog Rows.tokenConcatenatesRow.laid w) false (World.doorLaid Tryz.prog 4000 os) #[str [], str []] 8 rfl (World.shaped_of_RefB (by kernel_rfl) (by kernel_rfl)) (by kernel_rfl) (by kernel_rfl) (by kernel_rfl) (met os)) ?_
  intro W base args ds gs before hval hW _ _ hsh
  have hW' := hW
  obtain ⟨p, q, hA0, hV, rfl, hfz, hnd⟩ := hW
  have hA : DataW.TrodAll enc Tryz.prog W 0 (fun _ => true) true Tryz.f6.params.toList args.toList ds p := hA0
  rw [Tryz.params6] at hA hval
  obtain ⟨v0, v1, d0, d1, p0, p1, rfl, rfl, rfl, h0, h1⟩ := trodAll_two hA
  obtain ⟨rfl, rfl⟩ := trodVars_none hV
  obtain ⟨s0, rfl⟩ := strOf (hval 0 9 v0 rfl rfl)
  obtain ⟨s1, rfl⟩ := strOf (hval 1 9 v1 rfl rfl)
  obtain ⟨n0, t0⟩ := h0
  obtain ⟨n1, t1⟩ := h1
  have lt0 : ∀ z ∈ p0, z.block < W.heap.size := DataW.trod_lt n0 _ _ _ t0
  have lt1 : ∀ z ∈ p1, z.block < W.heap.size := DataW.trod_lt n1 _ _ _ t1
  refine (walk s0 s1 W (Tryz.laysM143.s1_3 W hsh)).mono fun e W' ⟨he, bel⟩ => ?_
  subst he
  refine ⟨_, rfl, _, _, _, [], _, [], hW', trodAll_mk1 (shut_bool Tryz.underlying4 _), trodAll_mk2 (Below.trod laidOut (by kernel_rfl) (of_decide_eq_true (by kernel_rfl)) ⟨n0, t0⟩ bel lt0) (Below.trod laidOut (by kernel_rfl) (of_decide_eq_true (by kernel_rfl)) ⟨n1, t1⟩ bel lt1), rfl, bel.frame _, fun h => by cases h⟩
theorem tokenConcatenates_row : Rows.TokenConcatenatesSaid :=
  OpenClaim.holds_of_wide 6 Tryz.f6 rfl rfl rfl rfl rfl rfl rfl ⟨rfl, rfl, rfl, rfl, rfl⟩ rfl rfl rfl rfl rfl (by kernel_rfl) Tryz.func6 (by kernel_rfl)
    (of_decide_eq_true (by kernel_rfl)) (by unfold Func.isWrapper; first | (rw [if_pos (by decide +kernel)]; kernel_rfl) | (rw [if_neg (by decide +kernel)]; exact ⟨rfl, rfl⟩))
    (fun os started H enc _ => lifted os started H enc)
theorem tokenConcatenates_holds : Rows.TokenConcatenatesCardSaid :=
  Claim7.holds_tied_plain_at .later [] _ _ _ _ tokenConcatenates_row (fun _ h => by cases h) (by kernel_rfl) (fun _ h => by cases h) tokenConcatenates_row_tie rfl ⟨rfl, rfl⟩ (by kernel_rfl) rfl
    (fun f fn hf hfn => by
      obtain rfl : f = 6 := Option.some.inj ((show Tryz.prog.funcNamed "netlab/netlablaw07.TokenConcatenates" = some 6 by kernel_rfl).symm.trans hf) |>.symm
      obtain rfl : fn = Tryz.f6 := (Option.some.inj (Tryz.func6.symm.trans hfn)).symm
      refine ⟨by kernel_rfl, fun j t ht => ?_⟩
      rw [Tryz.params6] at ht
      obtain rfl : t = 9 := by
        have := Array.mem_of_getElem? ht
        simp at this
        omega
      exact (show Tryz.prog.wantsStandIn 9 = false by kernel_rfl))
    (by kernel_rfl)
#print axioms tokenConcatenates_holds
end Go.Proofs.YtioldkniiilhnaaGreatDoor
