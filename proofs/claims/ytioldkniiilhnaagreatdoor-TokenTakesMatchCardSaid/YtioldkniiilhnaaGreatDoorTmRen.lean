/- Places get other names: what a tree tells stays told. -/
import Derived.Test.YtioldkniiilhnaaGreatDoorTmOps6
set_option linter.all false
namespace Go.TM
open Go
set_option linter.unusedVariables false
set_option linter.unusedSimpArgs false

/-- From c to c' places go by f; where z holds the marks begin anew. -/
structure Move (c c' : Ctx) (f : Loc → Option Loc) (z : Loc → Bool) : Prop where
 w : c'.w = c.w
 arr : ∀ l m, f l = some m → z l = true → ∀ ro g sz e xs, c.S l = some (.arr ro g sz e xs) → c'.S m = some (.arr ro 0 sz e xs)
 box : ∀ l m, f l = some m → z l = true → ∀ bt cs, c.S l = some (.box bt cs) → ∃ bt' ds, c'.S m = some (.box bt' ds)
 gone : ∀ l m, f l = some m → z l = true → c.S l = some .gone → c'.S m = some .gone
 at_ : ∀ l m, f l = some m → z l = true → c.D l → c'.D m ∧ c'.β m = c.β l
 low : ∀ l, z l = false → c.S l ≠ none → f l = some l ∧ c'.S l = c.S l ∧ (c.D l → c'.D l ∧ c'.β l = c.β l)

theorem OwnOk.cur {c : Ctx} {l : Loc} {g off len : Nat} {A : Option Addr} {cap : Nat} (h : OwnOk c l g off len A cap) : c.S l ≠ none := by
 intro h0; simp [OwnOk, h0] at h

theorem OwnOk.same {c c' : Ctx} {l : Loc} {g off len : Nat} {A : Option Addr} {cap : Nat} (h : OwnOk c l g off len A cap) (hS : c'.S l = c.S l) (hD : c.D l → c'.D l ∧ c'.β l = c.β l) (hw : c'.w = c.w) :
  OwnOk c' l g off len A cap := by
 unfold OwnOk at h ⊢
 rw [hS]
 cases ho : c.S l with
 | none => simp [ho] at h
 | some o =>
  cases o with
  | box bt cs => simp [ho] at h
  | gone => trivial
  | arr ro g0 sz e xs =>
   simp only [ho] at h ⊢
   refine ⟨h.1, fun hg => ?_⟩
   obtain ⟨h1, h2, h3, h4⟩ := h.2 hg
   refine ⟨(hD h1).1, h2, h3, ?_⟩
   rw [(hD h1).2, hw]
   exact h4

theorem AptrOk.cur {c : Ctx} {l : Loc} {g i off : Nat} {p : Addr} (h : AptrOk c l g i off p) : c.S l ≠ none := by
 intro h0; simp [AptrOk, h0] at h

theorem AptrOk.same {c c' : Ctx} {l : Loc} {g i off : Nat} {p : Addr} (h : AptrOk c l g i off p) (hS : c'.S l = c.S l) (hD : c.D l → c'.D l ∧ c'.β l = c.β l) : AptrOk c' l g i off p := by
 unfold AptrOk at h ⊢
 rw [hS]
 cases ho : c.S l with
 | none => simp [ho] at h
 | some o =>
  cases o with
  | box bt cs => simp [ho] at h
  | gone => trivial
  | arr ro g0 sz e xs =>
   simp only [ho] at h ⊢
   refine ⟨h.1, fun hg => ?_⟩
   obtain ⟨h1, h2, h3⟩ := h.2 hg
   exact ⟨(hD h1).1, h2, by rw [(hD h1).2]; exact h3⟩

mutual
theorem nolst_rep {c c' : Ctx} {t : T} {v : Value} (hc : closed t = true) (hl : hasLst t = false) : Rep c t v → Rep c' t v
 | .undef v => .undef v
 | .sc v hv => .sc v hv
 | .lst0 sz A cap => .lst0 sz A cap
 | .lst sz [] b o cap vs hs hE hcc hcap => .lst0 sz _ cap
 | .lst sz (x :: xs) b o cap vs hs hE hcc hcap => by simp [hasLst] at hl
 | .own l g off len A cap ho => by simp [closed] at hc
 | .ptr l off hb => by simp [closed] at hc
 | .lptr sz xs i off b o vs hs hE hcc => by simp [closed] at hc
 | .aptr l g i off p ho => by simp [closed] at hc
 | .clo f cs vs h => by simp [closed] at hc
 | .agg cs vs h => .agg cs vs (nolstL_rep (by simp only [closed, Bool.and_eq_true] at hc; exact hc.1) (by simpa [hasLst] using hl) h)
 | .tup cs vs h => by simp [closed] at hc
theorem nolstL_rep {c c' : Ctx} {ts : List T} {vs : List Value} (hc : closedL ts = true) (hl : hasLstL ts = false) : RepL c ts vs → RepL c' ts vs
 | .nil => .nil
 | .cons x v xs vs hx hr => .cons x v xs vs (nolst_rep (by simp only [closedL, Bool.and_eq_true] at hc; exact hc.1) (by simp only [hasLstL, Bool.or_eq_false_iff] at hl; exact hl.1) hx)
   (nolstL_rep (by simp only [closedL, Bool.and_eq_true] at hc; exact hc.2) (by simp only [hasLstL, Bool.or_eq_false_iff] at hl; exact hl.2) hr)
end

theorem nolstE_rep {c c' : Ctx} {sz : Nat} {xs : List T} {vs : List Value} (hl : hasLstL xs = false) : RepE c sz xs vs → RepE c' sz xs vs
 | .nil sz => .nil sz
 | .cons sz x v xs ws h hlen hcl hr => by
  simp only [hasLstL, Bool.or_eq_false_iff] at hl
  exact .cons sz x v xs ws (nolst_rep hcl hl.1 h) hlen hcl (nolstE_rep hl.2 hr)

/-- Shared blocks go along, or none is named. -/
def ShGo (c c' : Ctx) (b : Bool) : Prop := (∀ x, c.Sh x → c'.Sh x) ∨ b = false

theorem repE_go {c c' : Ctx} (hw : c'.w = c.w) {sz : Nat} {xs : List T} {vs : List Value} (hs : ShGo c c' (hasLstL xs)) (h : RepE c sz xs vs) : RepE c' sz xs vs := by
 rcases hs with hs | hs
 ·exact repE_kept (fun b hb => ⟨hs b hb, by rw [hw]⟩) h
 ·exact nolstE_rep hs h

mutual
theorem rename_rep {c c' : Ctx} {f : Loc → Option Loc} {z : Loc → Bool} (hm : Move c c' f z) : ∀ (t : T) {v : Value}, ShGo c c' (hasLst t) → Rep c t v → Rep c' (rename c.S f z t) v
 | .undef, v, hs, h => .undef v
 | .sc x, v, hs, h => by cases h with | sc _ hv => exact .sc _ hv
 | .lst sz xs, v, hs, h => by
  simp only [rename]
  cases h with
  | lst0 _ A cap => exact .lst0 sz A cap
  | lst _ _ b o cap vs hsb hE hc hcap =>
   cases xs with
   | nil => exact .lst0 sz _ cap
   | cons x xs =>
    have hgo := hs.resolve_right (by simp [hasLst])
    exact .lst sz _ b o cap vs (hgo b hsb) (repE_kept (fun x hx => ⟨hgo x hx, by rw [hm.w]⟩) hE) (by rw [hm.w]; exact hc) hcap
 | .own l g off len, v, hs, h => by
  cases h with
  | own _ _ _ _ A cap ho =>
   simp only [rename]
   cases hf : f l with
   | none => exact .undef _
   | some m =>
    simp only []
    cases hz : z l with
    | false =>
     obtain ⟨h1, h2, h3⟩ := hm.low l hz ho.cur
     rw [h1] at hf
     cases hf
     simp only [Bool.false_eq_true, if_false]
     exact .own _ _ _ _ _ _ (ho.same h2 h3 hm.w)
    | true =>
     simp only [if_true]
     cases hS : c.S l with
     | none => exact .undef _
     | some o =>
      cases o with
      | box bt cs => exact .undef _
      | gone => exact .undef _
      | arr ro g' sz e xs =>
       simp only []
       split
       ·rename_i hg
        subst hg
        refine .own _ _ _ _ _ _ ?_
        simp only [OwnOk, hS] at ho
        obtain ⟨h1, h2, h3, h4⟩ := ho.2 trivial
        obtain ⟨h5, h6⟩ := hm.at_ l m hf hz h1
        simp only [OwnOk, hm.arr l m hf hz _ _ _ _ _ hS]
        refine ⟨Nat.le_refl _, fun _ => ⟨h5, h2, h3, ?_⟩⟩
        rw [h6, hm.w]
        exact h4
       ·exact .undef _
 | .ptr l off, v, hs, h => by
  cases h with
  | ptr _ _ hb =>
   simp only [rename]
   cases hf : f l with
   | none => exact .undef _
   | some m =>
    simp only []
    obtain ⟨hD, bt, cs, hS⟩ := hb
    cases hz : z l with
    | false =>
     obtain ⟨h1, h2, h3⟩ := hm.low l hz (by rw [hS]; simp)
     rw [h1] at hf
     cases hf
     have := Rep.ptr (c := c') l off ⟨(h3 hD).1, bt, cs, by rw [h2]; exact hS⟩
     rw [(h3 hD).2] at this
     exact this
    | true =>
     obtain ⟨h5, h6⟩ := hm.at_ l m hf hz hD
     have := Rep.ptr (c := c') m off ⟨h5, hm.box l m hf hz bt cs hS⟩
     rw [h6] at this
     exact this
 | .lptr sz xs i off, v, hs, h => by
  simp only [rename]
  have hgo := hs.resolve_right (by simp [hasLst])
  cases h with
  | lptr _ _ _ _ b o vs hsb hE hc => exact .lptr sz xs i off b o vs (hgo b hsb) (repE_kept (fun x hx => ⟨hgo x hx, by rw [hm.w]⟩) hE) (by rw [hm.w]; exact hc)
 | .aptr l g i off, v, hs, h => by
  cases h with
  | aptr _ _ _ _ p ho =>
   simp only [rename]
   cases hf : f l with
   | none => exact .undef _
   | some m =>
    simp only []
    cases hz : z l with
    | false =>
     obtain ⟨h1, h2, h3⟩ := hm.low l hz ho.cur
     rw [h1] at hf
     cases hf
     simp only [Bool.false_eq_true, if_false]
     exact .aptr _ _ _ _ _ (ho.same h2 h3)
    | true =>
     simp only [if_true]
     cases hS : c.S l with
     | none => exact .undef _
     | some o =>
      cases o with
      | box bt cs => exact .undef _
      | gone => exact .undef _
      | arr ro g' sz e xs =>
       simp only []
       split
       ·rename_i hg
        subst hg
        refine .aptr _ _ _ _ _ ?_
        simp only [AptrOk, hS] at ho
        obtain ⟨h1, h2, h3⟩ := ho.2 trivial
        obtain ⟨h5, h6⟩ := hm.at_ l m hf hz h1
        simp only [AptrOk, hm.arr l m hf hz _ _ _ _ _ hS]
        exact ⟨Nat.le_refl _, fun _ => ⟨h5, h2, by rw [h6]; exact h3⟩⟩
       ·exact .undef _
 | .clo g cs, v, hs, h => by cases h with | clo _ _ vs hl => exact .clo _ _ _ (renameL_rep hm cs (hs.imp id (by simp [hasLst])) hl)
 | .agg cs, v, hs, h => by cases h with | agg _ vs hl => exact .agg _ _ (renameL_rep hm cs (hs.imp id (by simp [hasLst])) hl)
 | .tup cs, v, hs, h => by cases h with | tup _ vs hl => exact .tup _ _ (renameL_rep hm cs (hs.imp id (by simp [hasLst])) hl)
theorem renameL_rep {c c' : Ctx} {f : Loc → Option Loc} {z : Loc → Bool} (hm : Move c c' f z) : ∀ (ts : List T) {vs : List Value}, ShGo c c' (hasLstL ts) → RepL c ts vs → RepL c' (renameL c.S f z ts) vs
 | [], vs, hs, h => by cases h; exact .nil
 | x :: xs, vs, hs, h => by
  cases h with
  | cons _ v _ vs hx hr =>
   exact .cons _ _ _ _ (rename_rep hm x (hs.imp id (by simp [hasLstL]; intro h _; exact h)) hx) (renameL_rep hm xs (hs.imp id (by simp [hasLstL])) hr)
end

mutual
theorem rename_id {S : Store} {f : Loc → Option Loc} {z : Loc → Bool} {k : Nat} (h : ∀ l : Loc, l.1 ≤ k → f l = some l ∧ z l = false) : ∀ (t : T), lvle k t = true → rename S f z t = t
 | .undef, _ => rfl
 | .sc _, _ => rfl
 | .lst .., _ => rfl
 | .lptr .., _ => rfl
 | .own l g off len, hl => by
  have := h l (by simpa [lvle] using hl)
  simp [rename, this.1, this.2]
 | .ptr l off, hl => by
  have := h l (by simpa [lvle] using hl)
  simp [rename, this.1]
 | .aptr l g i off, hl => by
  have := h l (by simpa [lvle] using hl)
  simp [rename, this.1, this.2]
 | .clo g cs, hl => by simp only [rename]; rw [renameL_id h cs (by simpa [lvle] using hl)]
 | .agg cs, hl => by simp only [rename]; rw [renameL_id h cs (by simpa [lvle] using hl)]
 | .tup cs, hl => by simp only [rename]; rw [renameL_id h cs (by simpa [lvle] using hl)]
theorem renameL_id {S : Store} {f : Loc → Option Loc} {z : Loc → Bool} {k : Nat} (h : ∀ l : Loc, l.1 ≤ k → f l = some l ∧ z l = false) : ∀ (ts : List T), lvleL k ts = true → renameL S f z ts = ts
 | [], _ => rfl
 | x :: xs, hl => by
  simp only [lvleL, Bool.and_eq_true] at hl
  simp only [renameL]
  rw [rename_id h x hl.1, renameL_id h xs hl.2]
end

mutual
theorem rename_lvle {S : Store} {f : Loc → Option Loc} {z : Loc → Bool} {k : Nat} (h : ∀ l m : Loc, f l = some m → l.1 ≤ k → m.1 ≤ k) : ∀ (t : T), lvle k t = true → lvle k (rename S f z t) = true
 | .undef, _ => rfl
 | .sc _, _ => rfl
 | .lst .., _ => rfl
 | .lptr .., _ => rfl
 | .own l g off len, hl => by
  simp only [rename]
  cases hf : f l with
  | none => rfl
  | some m =>
   have := h l m hf (by simpa [lvle] using hl)
   simp only []
   split
   ·split
    ·split
     ·simpa [lvle] using this
     ·rfl
    ·rfl
   ·simpa [lvle] using this
 | .ptr l off, hl => by
  simp only [rename]
  cases hf : f l with
  | none => rfl
  | some m => simpa [lvle] using h l m hf (by simpa [lvle] using hl)
 | .aptr l g i off, hl => by
  simp only [rename]
  cases hf : f l with
  | none => rfl
  | some m =>
   have := h l m hf (by simpa [lvle] using hl)
   simp only []
   split
   ·split
    ·split
     ·simpa [lvle] using this
     ·rfl
    ·rfl
   ·simpa [lvle] using this
 | .clo g cs, hl => by simp only [rename, lvle]; exact renameL_lvle h cs (by simpa [lvle] using hl)
 | .agg cs, hl => by simp only [rename, lvle]; exact renameL_lvle h cs (by simpa [lvle] using hl)
 | .tup cs, hl => by simp only [rename, lvle]; exact renameL_lvle h cs (by simpa [lvle] using hl)
theorem renameL_lvle {S : Store} {f : Loc → Option Loc} {z : Loc → Bool} {k : Nat} (h : ∀ l m : Loc, f l = some m → l.1 ≤ k → m.1 ≤ k) : ∀ (ts : List T), lvleL k ts = true → lvleL k (renameL S f z ts) = true
 | [], _ => rfl
 | x :: xs, hl => by
  simp only [lvleL, Bool.and_eq_true] at hl
  simp only [renameL, lvleL, Bool.and_eq_true]
  exact ⟨rename_lvle h x hl.1, renameL_lvle h xs hl.2⟩
end

mutual
theorem lvle_mono {k n : Nat} (h : k ≤ n) : ∀ {t : T}, lvle k t = true → lvle n t = true
 | .undef, _ => rfl
 | .sc _, _ => rfl
 | .lst .., _ => rfl
 | .lptr .., _ => rfl
 | .own l g off len, hl => by simp [lvle] at hl ⊢; omega
 | .ptr l off, hl => by simp [lvle] at hl ⊢; omega
 | .aptr l g i off, hl => by simp [lvle] at hl ⊢; omega
 | .clo g cs, hl => by simp only [lvle] at hl ⊢; exact lvleL_mono h hl
 | .agg cs, hl => by simp only [lvle] at hl ⊢; exact lvleL_mono h hl
 | .tup cs, hl => by simp only [lvle] at hl ⊢; exact lvleL_mono h hl
theorem lvleL_mono {k n : Nat} (h : k ≤ n) : ∀ {ts : List T}, lvleL k ts = true → lvleL n ts = true
 | [], _ => rfl
 | x :: xs, hl => by
  simp only [lvleL, Bool.and_eq_true] at hl ⊢
  exact ⟨lvle_mono h hl.1, lvleL_mono h hl.2⟩
end

mutual
/-- Without a place of level n nothing is renamed. -/
theorem rename_none {S : Store} {f : Loc → Option Loc} {z : Loc → Bool} {n : Nat} (h : ∀ l : Loc, l.1 ≠ n → f l = some l ∧ z l = false) : ∀ (t : T), locsOf n t = [] → rename S f z t = t
 | .undef, _ => rfl
 | .sc _, _ => rfl
 | .lst .., _ => rfl
 | .lptr .., _ => rfl
 | .own l g off len, hl => by
  have := h l (by simpa [locsOf] using hl)
  simp [rename, this.1, this.2]
 | .ptr l off, hl => by
  have := h l (by simpa [locsOf] using hl)
  simp [rename, this.1]
 | .aptr l g i off, hl => by
  have := h l (by simpa [locsOf] using hl)
  simp [rename, this.1, this.2]
 | .clo g cs, hl => by simp only [rename]; rw [renameL_none h cs (by simpa [locsOf] using hl)]
 | .agg cs, hl => by simp only [rename]; rw [renameL_none h cs (by simpa [locsOf] using hl)]
 | .tup cs, hl => by simp only [rename]; rw [renameL_none h cs (by simpa [locsOf] using hl)]
theorem renameL_none {S : Store} {f : Loc → Option Loc} {z : Loc → Bool} {n : Nat} (h : ∀ l : Loc, l.1 ≠ n → f l = some l ∧ z l = false) : ∀ (ts : List T), locsOfL n ts = [] → renameL S f z ts = ts
 | [], _ => rfl
 | x :: xs, hl => by
  simp only [locsOfL, List.append_eq_nil_iff] at hl
  simp only [renameL]
  rw [rename_none h x hl.1, renameL_none h xs hl.2]
end

end Go.TM
