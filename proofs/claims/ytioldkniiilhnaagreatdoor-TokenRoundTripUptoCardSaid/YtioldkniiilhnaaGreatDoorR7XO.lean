/- The library's functions of the token seat: what is said of them holds. -/
import Derived.Test.YtioldkniiilhnaaGreatDoorR7P
import Derived.Test.YtioldkniiilhnaaGreatDoorA7Aw
set_option linter.all false
namespace Go.TM.R7
open Go Go.TM Go.Proofs Go.RowKit
set_option maxRecDepth 1000000
theorem x_it : Entered Tryz.prog 122 ∧ ∀ args r, XIT args = some r → closed r = true → hasLst r = false → ∀ L c vs, Inv L c → Good A7.gam c → RepL c args vs → Calls Tryz.prog 122 vs.toArray c.w (XPost c.w r) := by
 refine ⟨⟨Tryz.f122, Tryz.func122, by kernel_rfl, by kernel_rfl⟩, fun args r h _ _ L c vs _ hg hr => ?_⟩
 unfold XIT at h
 split at h
 ·split at h
  ·rename_i k hs
   simp only [Option.some.injEq] at h
   subst h
   rw [A7.repL_one hr]
   obtain ⟨h0, h1⟩ := hs
   refine (Tryz.strconv_Itoa k (by omega) h1 c.w hg.1.2).mono fun e w' h => ?_
   obtain ⟨rfl, q, os, rfl⟩ := h
   refine A7.post_below rfl ⟨?_, Lib.below_grow _ c.w (Nat.le_refl _) q os⟩
   unfold Lib.itoa
   rw [if_neg (by omega)]
  ·cases h
 ·cases h
theorem x_ca : Entered Tryz.prog 121 ∧ ∀ args r, XCA args = some r → closed r = true → hasLst r = false → ∀ L c vs, Inv L c → Good A7.gam c → RepL c args vs → Calls Tryz.prog 121 vs.toArray c.w (XPost c.w r) := by
 refine ⟨⟨Tryz.f121, Tryz.func121, by kernel_rfl, by kernel_rfl⟩, fun args r h _ _ L c vs _ hg hr => ?_⟩
 unfold XCA at h
 split at h
 ·split at h
  ·rename_i s t hs
   simp only [Option.some.injEq] at h
   subst h
   rw [A7.repL_two hr]
   obtain ⟨h0, h1, h2, h3⟩ := hs
   exact (Tryz.strings_ContainsAny_laid s t c.w h0 h1 (asc_lt h2) (asc_lt h3)).mono fun e w' h => A7.post_below rfl h
  ·cases h
 ·cases h
theorem x_jn : Entered Tryz.prog 58 ∧ ∀ args r, XJN args = some r → closed r = true → hasLst r = false → ∀ L c vs, Inv L c → Good A7.gam c → RepL c args vs → Calls Tryz.prog 58 vs.toArray c.w (XPost c.w r) := by
 refine ⟨⟨Tryz.f58, Tryz.func58, by kernel_rfl, by kernel_rfl⟩, fun args r h _ _ L c vs hi hg hr => ?_⟩
 unfold XJN at h
 split at h
 ·rename_i sep
  simp only [Option.some.injEq] at h
  subst h
  rw [A7.repL_two hr]
  exact (Tryz.strings_Join_none none 0 sep c.w).mono fun e w' h => A7.post_same rfl h
 ·rename_i sz xs sep
  split at h
  ·rename_i ys hy
   split at h
   ·rename_i hs
    simp only [Option.some.injEq] at h
    subst h
    obtain ⟨rfl, h1, h2⟩ := hs
    cases hr with
    | cons _ v _ ws ha hb =>
     cases hb with
     | cons _ v2 _ ws2 hc hd =>
      cases hd
      rw [A7.rep_sc hc]
      cases ha with
      | lst0 _ A cap =>
       simp only [strsT, Option.some.injEq] at hy
       subst hy
       exact (Tryz.strings_Join_none A cap sep c.w).mono fun e w' h => A7.post_same rfl h
      | lst _ _ b o cap vs hs hE hcl hcap =>
       obtain ⟨rfl, hlen⟩ := repE_strs hy hE
       rw [hlen]
       refine (Tryz.strings_Join b o cap ys sep c.w (fun j x hx => hcl j (.string x) (by simp [hx])) (hi.rel.lt b hs) h1 (by omega) h2).mono fun e w' h => A7.post_below rfl h
   ·cases h
  ·cases h
 ·cases h
theorem xok : XOk Tryz.prog A7.gam XR := by
 intro f g h
 unfold XR at h
 split at h
 ·rename_i e
  simp only [Option.some.injEq] at h
  subst e; subst h
  refine ⟨⟨Tryz.f13, Tryz.func13, by kernel_rfl, by kernel_rfl⟩, fun args r h _ _ L c vs _ hg hr => ?_⟩
  unfold XAw at h
  split at h
  ·simp only [Option.some.injEq] at h
   subst h
   cases hr
   exact (A7.awake_calls _ hg.1.1 hg.1.2).mono fun e w' h => A7.post_below rfl h
  ·cases h
 split at h
 ·rename_i e
  simp only [Option.some.injEq] at h
  subst e; subst h; exact A7.x_ib
 split at h
 ·rename_i e
  simp only [Option.some.injEq] at h
  subst e; subst h; exact A7.x_ix
 split at h
 ·rename_i e
  simp only [Option.some.injEq] at h
  subst e; subst h; exact A7.x_fi
 split at h
 ·rename_i e
  simp only [Option.some.injEq] at h
  subst e; subst h; exact x_it
 split at h
 ·rename_i e
  simp only [Option.some.injEq] at h
  subst e; subst h; exact x_jn
 split at h
 ·rename_i e
  simp only [Option.some.injEq] at h
  subst e; subst h; exact x_ca
 cases h
end Go.TM.R7
