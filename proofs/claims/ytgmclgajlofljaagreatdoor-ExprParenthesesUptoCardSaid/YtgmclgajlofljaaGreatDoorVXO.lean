/- The library's functions of the token seat: what is said of them holds. -/
import Derived.Test.YtgmclgajlofljaaGreatDoorR8P
import Derived.Test.YtgmclgajlofljaaGreatDoorA8Y
set_option linter.all false
namespace Go.TM.R8
open Go Go.TM Go.Proofs Go.RowKit
set_option maxRecDepth 1000000
theorem x_it : Entered Tryz.prog 160 ∧ ∀ args r, XIT args = some r → closed r = true → hasLst r = false → ∀ L c vs, Inv L c → Good A8.gam c → RepL c args vs → Calls Tryz.prog 160 vs.toArray c.w (XPost c.w r) := by
 refine ⟨⟨Tryz.f160, Tryz.func160, by kernel_rfl, by kernel_rfl⟩, fun args r h _ _ L c vs _ hg hr => ?_⟩
 unfold XIT at h
 split at h
 ·split at h
  ·rename_i k hs
   simp only [Option.some.injEq] at h
   subst h
   rw [A8.repL_one hr]
   obtain ⟨h0, h1⟩ := hs
   refine (Tryz.strconv_Itoa k (by omega) h1 c.w hg.1.2).mono fun e w' h => ?_
   obtain ⟨rfl, q, os, rfl⟩ := h
   refine A8.post_below rfl ⟨?_, Lib.below_grow _ c.w (Nat.le_refl _) q os⟩
   unfold Lib.itoa
   rw [if_neg (by omega)]
  ·cases h
 ·cases h
theorem x_ca : Entered Tryz.prog 159 ∧ ∀ args r, XCA args = some r → closed r = true → hasLst r = false → ∀ L c vs, Inv L c → Good A8.gam c → RepL c args vs → Calls Tryz.prog 159 vs.toArray c.w (XPost c.w r) := by
 refine ⟨⟨Tryz.f159, Tryz.func159, by kernel_rfl, by kernel_rfl⟩, fun args r h _ _ L c vs _ hg hr => ?_⟩
 unfold XCA at h
 split at h
 ·split at h
  ·rename_i s t hs
   simp only [Option.some.injEq] at h
   subst h
   rw [A8.repL_two hr]
   obtain ⟨h0, h1, h2, h3⟩ := hs
   exact (Tryz.strings_ContainsAny_laid s t c.w h0 h1 (asc_lt h2) (asc_lt h3)).mono fun e w' h => A8.post_below rfl h
  ·cases h
 ·cases h
theorem xok : XOk Tryz.prog A8.gam XR := by
 intro f g h
 unfold XR at h
 split at h
 ·rename_i e
  simp only [Option.some.injEq] at h
  subst e; subst h; exact A8.x_ib
 split at h
 ·rename_i e
  simp only [Option.some.injEq] at h
  subst e; subst h; exact A8.x_ix
 split at h
 ·rename_i e
  simp only [Option.some.injEq] at h
  subst e; subst h; exact A8.x_fi
 split at h
 ·rename_i e
  simp only [Option.some.injEq] at h
  subst e; subst h; exact x_it
 split at h
 ·rename_i e
  simp only [Option.some.injEq] at h
  subst e; subst h; exact x_ca
 cases h
end Go.TM.R8
