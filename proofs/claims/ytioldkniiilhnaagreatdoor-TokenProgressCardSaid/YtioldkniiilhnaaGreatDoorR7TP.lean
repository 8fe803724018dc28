/- The law TokenProgress: for every text it returns true. -/
import Derived.Test.YtioldkniiilhnaaGreatDoorR7A
import Derived.Test.YtioldkniiilhnaaGreatDoorTmIn
import Derived.Test.YtioldkniiilhnaaGreatDoorA7Aw
import Derived.Test.YtioldkniiilhnaaGreatDoorTmHand
import Derived.Test.YtioldkniiilhnaaGreatDoorCards
import Derived.Test.YtioldkniiilhnaaGreatDoorTie
import Derived.WalkKit
import Derived.ProofKit
import Derived.OpenShut
import Derived.Carry
import Derived.Deep.DeepHandedRow
import Derived.SevenTiedAt
set_option linter.all false
namespace Go.Proofs.YtioldkniiilhnaaGreatDoor
open Go Go.TM Go.TM.R7
open Go.ChangeShapes Go.WideShapes Go.ChangeAt Go.RowKit
set_option linter.unusedVariables false
set_option maxRecDepth 1000000

theorem xok : XOk Tryz.prog A7.gam XR := by
  intro f g h
  unfold XR at h
  split at h
  · rename_i e
    simp only [Option.some.injEq] at h
    subst e; subst h
    refine ⟨⟨Tryz.f13, Tryz.func13, by kernel_rfl, by kernel_rfl⟩, fun args r h _ _ L c vs _ hg hr => ?_⟩
    unfold XAw at h
    split at h
    · simp only [Option.some.injEq] at h
      subst h
      cases hr
      exact (A7.awake_calls _ hg.1).mono fun e w' h => A7.post_below rfl h
    · cases h
  split at h
  · rename_i e
    simp only [Option.some.injEq] at h
    subst e; subst h; exact A7.x_ib
  split at h
  · rename_i e
    simp only [Option.some.injEq] at h
    subst e; subst h; exact A7.x_ix
  cases h
theorem strOf {W : World} {base : Nat} {v : Value} (h0 : Value.okWide Tryz.prog W .any base 9 v) : ∃ s : List UInt8, v = str s := by
  unfold Value.okWide at h0
  rw [Tryz.underlying9] at h0
  replace h0 : Cell.okWide Tryz.prog W .any base 9 v := h0
  unfold Cell.okWide at h0
  rw [Tryz.underlying9] at h0
  cases v with
  | string b => exact ⟨b.data.toList, rfl⟩
  | _ => simp only [Cell.ok, Tryz.underlying9] at h0
theorem walk (s : List UInt8) (W : World) (hm : ∃ m, W.cell? ⟨0, 0, none⟩ = some (.int .i64 m)) : Calls Tryz.prog 4 #[str s] W fun e w' => e = .returned (.bool true) ∧ Below W.heap.size W w' := by
  have hlt : 0 < W.heap.size := by
    obtain ⟨m, hm⟩ := hm
    rcases Nat.lt_or_ge 0 W.heap.size with h | h
    · exact h
    · simp [World.cell?, Array.getElem?_eq_none h] at hm
  refine calls_in (vs := [str s]) (γ := A7.gam) (E := R7.E) rfl xok A7.ngok (c_prog s) W ⟨hm, fun b hb => ?_⟩ (.cons _ _ _ _ (.sc _ rfl) .nil)
  have : b = 0 := hb
  subst this; exact hlt
theorem own : ownKnob Tryz.prog.godebug = none := by kernel_rfl
theorem met (os : Os) : laidMetH Tryz.prog Rows.tokenProgressRow.laid ((World.doorLaid Tryz.prog 4000 os).forCall (fun _ _ => 0) ⟨#[], #[str []], []⟩).memory :=
  laidMetH_of_parts3 (fuel := 8) (laidMet_of_run' 70 (by kernel_rfl) (by kernel_rfl)) (by kernel_rfl) (by kernel_rfl)
theorem laidOut : laidOutB Tryz.prog = true := by kernel_rfl

theorem lifted (os : Os) (started : os.Started) (H : Type) (enc : TypeId × Value → H) :
    ReturnsInHanded {} Tryz.checked os 4 .any (fun w args => (Rows.tokenProgressSpec.pre enc Tryz.prog Tryz.f4 Rows.tokenProgressRow.domain false w args ∧ laidMetH Tryz.prog Rows.tokenProgressRow.laid w) ∧ sizedMet enc Tryz.prog Tryz.f4 (OpenSpec.ofChange Rows.tokenProgressSpec) false w args)
      (Rows.tokenProgressSpec.post enc Tryz.prog Tryz.f4 false true false false) := by
  refine handed_both (C := Tryz.checked) (X := fun w _ => laidMetH Tryz.prog Rows.tokenProgressRow.laid w) (fun _ _ _ hh h => h.of_heap hh) own started (by kernel_rfl) Tryz.func4
    (ChangeSpec.witness_shaped (enc := enc) (C := Tryz.checked) (os := os) (X := fun w _ => laidMetH Tryz.prog Rows.tokenProgressRow.laid w) false (World.doorLaid Tryz.prog 4000 os) #[str []] 8 rfl (World.shaped_of_RefB (by kernel_rfl) (by kernel_rfl)) (by kernel_rfl) (by kernel_rfl) (by kernel_rfl) (met os)) ?_
  intro W base args ds gs before hval hW _ _ hsh
  have hW' := hW
  obtain ⟨p, q, hA0, hV, rfl, hfz, hnd⟩ := hW
  have hA : DataW.TrodAll enc Tryz.prog W 0 (fun _ => true) true Tryz.f4.params.toList args.toList ds p := hA0
  rw [Tryz.params4] at hA hval
  obtain ⟨v0, d0, rfl, rfl, h0⟩ := trodAll_one hA
  obtain ⟨rfl, rfl⟩ := trodVars_none hV
  obtain ⟨s, rfl⟩ := strOf (hval 0 9 v0 rfl rfl)
  obtain ⟨n0, t0⟩ := h0
  have lt0 : ∀ z ∈ p, z.block < W.heap.size := DataW.trod_lt n0 _ _ _ t0
  refine (walk s W (Tryz.laysM143.s1_3 W hsh)).mono fun e W' ⟨he, bel⟩ => ?_
  subst he
  refine ⟨_, rfl, _, _, _, [], _, [], hW', trodAll_mk1 (shut_bool Tryz.underlying4 _), trodAll_mk1 (Below.trod laidOut (by kernel_rfl) (of_decide_eq_true (by kernel_rfl)) ⟨n0, t0⟩ bel lt0), rfl, bel.frame _, fun h => by cases h⟩
theorem tokenProgress_row : Rows.TokenProgressSaid :=
  OpenClaim.holds_of_wide 4 Tryz.f4 rfl rfl rfl rfl rfl rfl rfl ⟨rfl, rfl, rfl, rfl, rfl⟩ rfl rfl rfl rfl rfl (by kernel_rfl) Tryz.func4 (by kernel_rfl)
    (of_decide_eq_true (by kernel_rfl)) (by unfold Func.isWrapper; first | (rw [if_pos (by decide +kernel)]; kernel_rfl) | (rw [if_neg (by decide +kernel)]; exact ⟨rfl, rfl⟩))
    (fun os started H enc _ => lifted os started H enc)
theorem tokenProgress_holds : Rows.TokenProgressCardSaid :=
  Claim7.holds_tied_plain_at .later [] _ _ _ _ tokenProgress_row (fun _ h => by cases h) (by kernel_rfl) (fun _ h => by cases h) tokenProgress_row_tie rfl ⟨rfl, rfl⟩ (by kernel_rfl) rfl
    (fun f fn hf hfn => by
      obtain rfl : f = 4 := Option.some.inj ((show Tryz.prog.funcNamed "netlab/netlablaw07.TokenProgress" = some 4 by kernel_rfl).symm.trans hf) |>.symm
      obtain rfl : fn = Tryz.f4 := (Option.some.inj (Tryz.func4.symm.trans hfn)).symm
      refine ⟨by kernel_rfl, fun j t ht => ?_⟩
      rw [Tryz.params4] at ht
      obtain rfl : t = 9 := by simpa using Array.mem_of_getElem? ht
      exact (show Tryz.prog.wantsStandIn 9 = false by kernel_rfl))
    (by kernel_rfl)
#print axioms tokenProgress_holds
end Go.Proofs.YtioldkniiilhnaaGreatDoor
