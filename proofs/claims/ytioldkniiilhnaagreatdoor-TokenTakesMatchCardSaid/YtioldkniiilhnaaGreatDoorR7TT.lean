/- The law TokenTakesMatch: for every two texts and every offset it returns true. -/
import Derived.Test.YtioldkniiilhnaaGreatDoorR7Z
import Derived.Test.YtioldkniiilhnaaGreatDoorTmIn3
import Derived.Test.YtioldkniiilhnaaGreatDoorA7Aw
import Derived.Test.YtioldkniiilhnaaGreatDoorTmHand
import Derived.Test.YtioldkniiilhnaaGreatDoorCards
import Derived.Test.YtioldkniiilhnaaGreatDoorTie
import Derived.WalkKit
import Derived.ProofKit
import Derived.OpenShut
import Derived.Carry
import Derived.Deep.DeepHandedRow
import Derived.SevenTiedAt
set_option linter.all false
namespace Go.Proofs.YtioldkniiilhnaaGreatDoor
open Go Go.TM Go.TM.R7
open Go.ChangeShapes Go.WideShapes Go.ChangeAt Go.RowKit
set_option linter.unusedVariables false
set_option maxRecDepth 1000000

theorem xok : XOk Tryz.prog A7.gam XR := by
 intro f g h
 unfold XR at h
 split at h
 ·rename_i e
  simp only [Option.some.injEq] at h
  subst e; subst h
  refine ⟨⟨Tryz.f13, Tryz.func13, by kernel_rfl, by kernel_rfl⟩, fun args r h _ _ L c vs _ hg hr => ?_⟩
  unfold XAw at h
  split at h
  ·simp only [Option.some.injEq] at h
   subst h
   cases hr
   exact (A7.awake_calls _ hg.1).mono fun e w' h => A7.post_below rfl h
  ·cases h
 split at h
 ·rename_i e
  simp only [Option.some.injEq] at h
  subst e; subst h; exact A7.x_ib
 split at h
 ·rename_i e
  simp only [Option.some.injEq] at h
  subst e; subst h; exact A7.x_ix
 cases h
theorem strOf {W : World} {base : Nat} {v : Value} (h0 : Value.okWide Tryz.prog W .any base 9 v) : ∃ s : List UInt8, v = str s := by
 unfold Value.okWide at h0
 rw [Tryz.underlying9] at h0
 replace h0 : Cell.okWide Tryz.prog W .any base 9 v := h0
 unfold Cell.okWide at h0
 rw [Tryz.underlying9] at h0
 cases v with
 | string b => exact ⟨b.data.toList, rfl⟩
 | _ => simp only [Cell.ok, Tryz.underlying9] at h0
theorem intOf {W : World} {base : Nat} {v : Value} (h0 : Value.okWide Tryz.prog W .any base 3 v) : ∃ i : Int, v = .int .i64 i := by
 unfold Value.okWide at h0
 rw [Tryz.underlying3] at h0
 replace h0 : Cell.okWide Tryz.prog W .any base 3 v := h0
 unfold Cell.okWide at h0
 rw [Tryz.underlying3] at h0
 cases v with
 | int k b => simp only [Cell.ok, Tryz.underlying3] at h0; exact ⟨b, by rw [h0.1]⟩
 | _ => simp only [Cell.ok, Tryz.underlying3] at h0
theorem walk (s0 : List UInt8) (s1 : Int) (s2 : List UInt8) (W : World) (hm : ∃ m, W.cell? ⟨0, 0, none⟩ = some (.int .i64 m)) : Calls Tryz.prog 7 #[str s0, .int .i64 s1, str s2] W fun e w' => e = .returned (.bool true) ∧ Below W.heap.size W w' := by
 have hlt : 0 < W.heap.size := by
  obtain ⟨m, hm⟩ := hm
  rcases Nat.lt_or_ge 0 W.heap.size with h | h
  ·exact h
  ·simp [World.cell?, Array.getElem?_eq_none h] at hm
 refine calls_in (vs := [str s0, .int .i64 s1, str s2]) (γ := A7.gam) (E := R7.E) rfl xok A7.ngok (c_takes s0 s1 s2) W ⟨hm, fun b hb => ?_⟩ (.cons _ _ _ _ (.sc _ rfl) (.cons _ _ _ _ (.sc _ rfl) (.cons _ _ _ _ (.sc _ rfl) .nil)))
 have : b = 0 := hb
 subst this; exact hlt
theorem own : ownKnob Tryz.prog.godebug = none := by kernel_rfl
theorem met (os : Os) : laidMetH Tryz.prog Rows.tokenTakesMatchRow.laid ((World.doorLaid Tryz.prog 4000 os).forCall (fun _ _ => 0) ⟨#[], #[str [], .int .i64 0, str []], []⟩).memory :=
 laidMetH_of_parts3 (fuel := 8) (laidMet_of_run' 70 (by kernel_rfl) (by kernel_rfl)) (by kernel_rfl) (by kernel_rfl)
theorem laidOut : laidOutB Tryz.prog = true := by kernel_rfl

theorem lifted (os : Os) (started : os.Started) (H : Type) (enc : TypeId × Value → H) :
  ReturnsInHanded {} Tryz.checked os 7 .any (fun w args => (Rows.tokenTakesMatchSpec.pre enc Tryz.prog Tryz.f7 Rows.tokenTakesMatchRow.domain false w args ∧ laidMetH Tryz.prog Rows.tokenTakesMatchRow.laid w) ∧ sizedMet enc Tryz.prog Tryz.f7 (OpenSpec.ofChange Rows.tokenTakesMatchSpec) false w args)
   (Rows.tokenTakesMatchSpec.post enc Tryz.prog Tryz.f7 false true false false) := by
 refine handed_both (C := Tryz.checked) (X := fun w _ => laidMetH Tryz.prog Rows.tokenTakesMatchRow.laid w) (fun _ _ _ hh h => h.of_heap hh) own started (by kernel_rfl) Tryz.func7
  (ChangeSpec.witness_shaped (enc := enc) (C := Tryz.checked) (os := os) (X := fun w _ => laidMetH Tryz.prog Rows.tokenTakesMatchRow.laid w) false (World.doorLaid Tryz.prog 4000 os) #[str [], .int .i64 0, str []] 8 rfl (World.shaped_of_RefB (by kernel_rfl) (by kernel_rfl)) (by kernel_rfl) (by kernel_rfl) (by kernel_rfl) (met os)) ?_
 intro W base args ds gs before hval hW _ _ hsh
 have hW' := hW
 obtain ⟨p, q, hA0, hV, rfl, hfz, hnd⟩ := hW
 have hA : DataW.TrodAll enc Tryz.prog W 0 (fun _ => true) true Tryz.f7.params.toList args.toList ds p := hA0
 rw [Tryz.params7] at hA hval
 obtain ⟨v0, v1, v2, d0, d1, d2, p0, p1, p2, rfl, rfl, rfl, h0, h1, h2⟩ := trodAll_three hA
 obtain ⟨rfl, rfl⟩ := trodVars_none hV
 obtain ⟨s0, rfl⟩ := strOf (hval 0 9 v0 rfl rfl)
 obtain ⟨s1, rfl⟩ := intOf (hval 1 3 v1 rfl rfl)
 obtain ⟨s2, rfl⟩ := strOf (hval 2 9 v2 rfl rfl)
 obtain ⟨n0, t0⟩ := h0
 obtain ⟨n1, t1⟩ := h1
 obtain ⟨n2, t2⟩ := h2
 have lt0 : ∀ z ∈ p0, z.block < W.heap.size := DataW.trod_lt n0 _ _ _ t0
 have lt1 : ∀ z ∈ p1, z.block < W.heap.size := DataW.trod_lt n1 _ _ _ t1
 have lt2 : ∀ z ∈ p2, z.block < W.heap.size := DataW.trod_lt n2 _ _ _ t2
 refine (walk s0 s1 s2 W (Tryz.laysM143.s1_3 W hsh)).mono fun e W' ⟨he, bel⟩ => ?_
 subst he
 refine ⟨_, rfl, _, _, _, [], _, [], hW', trodAll_mk1 (shut_bool Tryz.underlying4 _), trodAll_mk3 (Below.trod laidOut (by kernel_rfl) (of_decide_eq_true (by kernel_rfl)) ⟨n0, t0⟩ bel lt0) (Below.trod laidOut (by kernel_rfl) (of_decide_eq_true (by kernel_rfl)) ⟨n1, t1⟩ bel lt1) (Below.trod laidOut (by kernel_rfl) (of_decide_eq_true (by kernel_rfl)) ⟨n2, t2⟩ bel lt2), rfl, bel.frame _, fun h => by cases h⟩
theorem tokenTakesMatch_row : Rows.TokenTakesMatchSaid :=
 OpenClaim.holds_of_wide 7 Tryz.f7 rfl rfl rfl rfl rfl rfl rfl ⟨rfl, rfl, rfl, rfl, rfl⟩ rfl rfl rfl rfl rfl (by kernel_rfl) Tryz.func7 (by kernel_rfl)
  (of_decide_eq_true (by kernel_rfl)) (by unfold Func.isWrapper; first | (rw [if_pos (by decide +kernel)]; kernel_rfl) | (rw [if_neg (by decide +kernel)]; exact ⟨rfl, rfl⟩))
  (fun os started H enc _ => lifted os started H enc)
theorem tokenTakesMatch_holds : Rows.TokenTakesMatchCardSaid :=
 Claim7.holds_tied_plain_at .later [] _ _ _ _ tokenTakesMatch_row (fun _ h => by cases h) (by kernel_rfl) (fun _ h => by cases h) tokenTakesMatch_row_tie rfl ⟨rfl, rfl⟩ (by kernel_rfl) rfl
  (fun f fn hf hfn => by
   obtain rfl : f = 7 := Option.some.inj ((show Tryz.prog.funcNamed "netlab/netlablaw07.TokenTakesMatch" = some 7 by kernel_rfl).symm.trans hf) |>.symm
   obtain rfl : fn = Tryz.f7 := (Option.some.inj (Tryz.func7.symm.trans hfn)).symm
   refine ⟨by kernel_rfl, fun j t ht => ?_⟩
   rw [Tryz.params7] at ht
   have : t = 9 ∨ t = 3 := by
    have := Array.mem_of_getElem? ht
    simp at this
    first | exact this | (rcases this with h | h | h <;> first | exact .inl h | exact .inr h) | (rcases this with h | h <;> first | exact .inl h | exact .inr h)
   rcases this with rfl | rfl
   ·exact (show Tryz.prog.wantsStandIn 9 = false by kernel_rfl)
   ·exact (show Tryz.prog.wantsStandIn 3 = false by kernel_rfl))
  (by kernel_rfl)
#print axioms tokenTakesMatch_holds
end Go.Proofs.YtioldkniiilhnaaGreatDoor
