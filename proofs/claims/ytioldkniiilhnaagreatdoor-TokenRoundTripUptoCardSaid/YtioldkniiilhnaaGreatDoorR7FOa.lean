/- Token: the signs, by both. -/
import Derived.Test.YtioldkniiilhnaaGreatDoorR7Qa
set_option linter.all false
namespace Go.TM.R7
open Go Go.TM Go.Proofs Go.TM.A7
theorem findS_one (c : UInt8) : ∀ l : List UInt8, (findS [c] l).isSome = true → c ∈ l
 | [], h => by simp [findS] at h
 | b :: l, h => by
  unfold findS at h
  by_cases hb : ([c] : List UInt8).isPrefixOf (b :: l) = true
  ·have : c = b := by simpa [List.isPrefixOf] using hb
   rw [this]; exact List.mem_cons_self
  ·rw [if_neg hb] at h
   exact List.mem_cons_of_mem _ (findS_one c l (by simpa using h))
theorem pw_in : ∀ p ∈ pwTab, p.2.toList ∈ puncts := by decide
theorem sg_in : ∀ c ∈ signs, [c] ∈ puncts := by decide
theorem punct_mem {x : List UInt8} (h : punct x = true) : x ∈ puncts := by
 unfold punct at h
 rw [Bool.or_eq_true] at h
 rcases h with h | h
 ·rw [List.any_eq_true] at h
  obtain ⟨p, hp, he⟩ := h
  rw [beq_iff_eq] at he
  rw [he]
  exact pw_in p hp
 ·rw [Bool.and_eq_true, decide_eq_true_eq] at h
  obtain ⟨h1, h2⟩ := h
  match x, h1 with
  | [c], _ => exact sg_in c (findS_one c signs h2)
theorem hp36 (s : List UInt8) (h : 0 < s.length) : hasPrefix s [36] = decide (B s 0 = 36) := by
 cases s with
 | nil => simp at h
 | cons b s =>
  unfold hasPrefix B
  by_cases hb : b = 36
  ·subst hb; simp
  ·have : ¬ b.toNat = 36 := fun e => hb (by apply UInt8.toNat_inj.1; rw [e]; rfl)
   simp [hb, this]
end Go.TM.R7
