/- How a context turns: a new place, a place written, a row grown, places shut. -/
import Derived.Test.YtioldkniiilhnaaGreatDoorTmRel
set_option linter.all false
namespace Go.TM
open Go
set_option linter.unusedVariables false

/-- The world but for its heap and its count of draws. -/
structure Calm (w w' : World) : Prop where
 os : w'.os = w.os
 tape : w'.tape = w.tape
 output : w'.output = w.output

theorem lt_of_get {w : World} {b : Nat} {o : Go.Obj} (h : w.heap[b]? = some o) : b < w.heap.size := by
 rcases Nat.lt_or_ge b w.heap.size with hl | hl
 ·exact hl
 ·rw [Array.getElem?_eq_none hl] at h; cases h

/-- A writable place's block lies in the heap. -/
theorem Rel.mutLt {c : Ctx} (h : Rel c) {l : Loc} (hD : c.D l) (hm : Mut c l) : c.β l < c.w.heap.size := by
 unfold Mut at hm
 cases hS : c.S l with
 | none => simp [hS] at hm
 | some o =>
  cases o with
  | gone => simp [hS] at hm
  | box bt cs => obtain ⟨_, vs, hw, _⟩ := h.box l bt cs hD hS; exact lt_of_get hw
  | arr ro g sz e xs => obtain ⟨cur, fz, vs, hw, _⟩ := h.arr l ro g sz e xs hD hS; exact lt_of_get hw

theorem Rel.liveLt {c : Ctx} (h : Rel c) {l : Loc} (hD : c.D l) {o : Obj} (hS : c.S l = some o) (ho : o ≠ .gone) : c.β l < c.w.heap.size := by
 cases o with
 | gone => exact absurd rfl ho
 | box bt cs => obtain ⟨_, vs, hw, _⟩ := h.box l bt cs hD hS; exact lt_of_get hw
 | arr ro g sz e xs => obtain ⟨cur, fz, vs, hw, _⟩ := h.arr l ro g sz e xs hD hS; exact lt_of_get hw

def ctxNew (c : Ctx) (l : Loc) (o : Obj) (w' : World) : Ctx :=
 { S := upd c.S l o, D := fun m => c.D m ∨ m = l, β := fun m => if m = l then c.w.heap.size else c.β m, Sh := c.Sh, w := w' }

theorem upd_same (S : Store) (l : Loc) (o : Obj) : upd S l o l = some o := by simp [upd]
theorem upd_ne (S : Store) {l m : Loc} (o : Obj) (h : m ≠ l) : upd S l o m = S m := by simp [upd, h]

theorem ctxNew_kept {c : Ctx} {l : Loc} {o : Obj} {w' : World} (hl : c.S l = none) (hw : ∀ b, b < c.w.heap.size → w'.heap[b]? = c.w.heap[b]?) (hR : Rel c) : Kept c (ctxNew c l o w') := by
 have ne : ∀ m o', c.S m = some o' → m ≠ l := fun m o' hm e => by rw [e, hl] at hm; cases hm
 refine ⟨fun b hb => ⟨hb, hw b (hR.lt b hb)⟩, fun m hm => ?_, fun m ro g sz e xs hS => .inr ?_, fun m hS => ?_⟩
 ·obtain ⟨hD, bt, cs, hS⟩ := hm
  exact ⟨⟨.inl hD, bt, cs, by simp only [ctxNew]; rw [upd_ne _ _ (ne m _ hS)]; exact hS⟩, by simp [ctxNew, ne m _ hS]⟩
 ·refine ⟨ro, g, sz, e, xs, by simp only [ctxNew]; rw [upd_ne _ _ (ne m _ hS)]; exact hS, Nat.le_refl _, fun _ => ⟨rfl, rfl, rfl, fun hD => ⟨.inl hD, by simp [ctxNew, ne m _ hS], fun cur fz hc => ⟨cur, fz, ?_, rfl⟩⟩⟩⟩
  simp only [ctxNew]
  rw [hw _ (lt_of_get hc)]; exact hc
 ·simp only [ctxNew]; rw [upd_ne _ _ (ne m _ hS)]; exact hS

theorem ctxNew_rel {c : Ctx} {l : Loc} {o : Obj} {w' : World} (hR : Rel c) (hl : c.S l = none) (hw : ∀ b, b < c.w.heap.size → w'.heap[b]? = c.w.heap[b]?)
  (hsz : c.w.heap.size ≤ w'.heap.size) {cur : Array Value} {ty : TypeId} (hn : w'.heap[c.w.heap.size]? = some (.cells cur ty (0, 0)))
  (hb : ∀ bt cs, o = .box bt cs → bt = ty ∧ lvleL l.1 cs = true ∧ ∃ vs, cur = vs.toArray ∧ RepL c cs vs)
  (ha : ∀ ro g sz e xs, o = .arr ro g sz e xs → ro = false ∧ ty = e ∧ ∃ vs, RepE c sz xs vs ∧ cur.toList.take vs.length = vs) : Rel (ctxNew c l o w') := by
 have hk := ctxNew_kept (o := o) hl hw hR
 have hDl : ¬ c.D l := fun h => hR.dom l h hl
 have ne : ∀ m, c.D m → m ≠ l := fun m hm e => hDl (e ▸ hm)
 have hmut : ∀ m, c.D m → Mut (ctxNew c l o w') m → Mut c m := fun m hm h => by simpa [Mut, ctxNew, upd_ne _ _ (ne m hm)] using h
 refine ⟨fun m bt cs hD hS => ?_, fun m ro g sz e xs hD hS => ?_, fun m hD hm => ?_, fun m m' hD hD' hm hm' hβ => ?_, fun b hb' => Nat.lt_of_lt_of_le (hR.lt b hb') hsz, fun m hD hS => ?_⟩
 ·by_cases e : m = l
  ·subst e
   rw [show (ctxNew c m o w').S m = some o from upd_same _ _ _] at hS
   obtain ⟨h0, h1, vs, h3, h4⟩ := hb bt cs (Option.some.inj hS)
   subst h0
   exact ⟨h1, vs, by simp only [ctxNew, if_true]; rw [hn, h3], h4.kept hk⟩
  ·have hD : c.D m := hD.resolve_right e
   rw [show (ctxNew c l o w').S m = c.S m from upd_ne _ _ e] at hS
   obtain ⟨h1, vs, h3, h4⟩ := hR.box m bt cs hD hS
   exact ⟨h1, vs, by simp only [ctxNew, e, if_false]; rw [hw _ (lt_of_get h3)]; exact h3, h4.kept hk⟩
 ·by_cases e' : m = l
  ·subst e'
   rw [show (ctxNew c m o w').S m = some o from upd_same _ _ _] at hS
   obtain ⟨rfl, rfl, vs, h3, h4⟩ := ha ro g sz e xs (Option.some.inj hS)
   exact ⟨cur, (0, 0), vs, by simp only [ctxNew, if_true]; exact hn, fun _ => rfl, fun h => by simp at h, h3.kept hk, h4⟩
  ·have hD : c.D m := hD.resolve_right e'
   rw [show (ctxNew c l o w').S m = c.S m from upd_ne _ _ e'] at hS
   obtain ⟨cur', fz, vs, h3, h4, h5, h6, h7⟩ := hR.arr m ro g sz e xs hD hS
   exact ⟨cur', fz, vs, by simp only [ctxNew, e', if_false]; rw [hw _ (lt_of_get h3)]; exact h3, h4, fun h => by simp only [ctxNew, e', if_false]; exact h5 h, h6.kept hk, h7⟩
 ·by_cases e : m = l
  ·subst e
   intro h
   have := hR.lt _ h
   simp [ctxNew] at this
  ·have hD : c.D m := hD.resolve_right e
   have := hR.nsh m hD (hmut m hD hm)
   simpa [ctxNew, e] using this
 ·by_cases e : m = l
  ·by_cases e' : m' = l
   ·rw [e, e']
   ·have hD' : c.D m' := hD'.resolve_right e'
    have := hR.mutLt hD' (hmut m' hD' hm')
    simp only [ctxNew, e, e', if_true, if_false] at hβ
    omega
  ·have hD : c.D m := hD.resolve_right e
   by_cases e' : m' = l
   ·have := hR.mutLt hD (hmut m hD hm)
    simp only [ctxNew, e, e', if_true, if_false] at hβ
    omega
   ·have hD' : c.D m' := hD'.resolve_right e'
    simp only [ctxNew, e, e', if_false] at hβ
    exact hR.inj m m' hD hD' (hmut m hD hm) (hmut m' hD' hm') hβ
 ·by_cases e : m = l
  ·subst e
   rw [show (ctxNew c m o w').S m = some o from upd_same _ _ _] at hS
   cases hS
  ·rw [show (ctxNew c l o w').S m = c.S m from upd_ne _ _ e] at hS
   exact hR.dom m (hD.resolve_right e) hS

theorem ctxNew_fr {c : Ctx} {l : Loc} {o : Obj} {w' : World} (hR : Rel c) (hl : c.S l = none) (hc : Calm c.w w') (hw : ∀ b, b < c.w.heap.size → w'.heap[b]? = c.w.heap[b]?)
  (hsz : c.w.heap.size ≤ w'.heap.size) : Fr c (ctxNew c l o w') := by
 refine ⟨hc.os, hc.tape, hc.output, hsz, fun b hb _ => hw b hb, fun m hD hm => ?_, fun b hb => .inl hb⟩
 by_cases e : m = l
 ·right; simp [ctxNew, e]
 ·left
  have hD : c.D m := hD.resolve_right e
  exact ⟨hD, by simpa [Mut, ctxNew, upd_ne _ _ e] using hm, by simp [ctxNew, e]⟩

/-! ### a writable place is written; its block may be another one -/
def ctxPut (c : Ctx) (l : Loc) (o : Obj) (b : Nat) (w' : World) : Ctx :=
 { S := upd c.S l o, D := c.D, β := fun m => if m = l then b else c.β m, Sh := c.Sh, w := w' }

/-- Of what it was and what it is: a variable stays where it is; a row is marked anew, or stays, of its size. -/
def PutOk (c : Ctx) (l : Loc) (o : Obj) (b : Nat) (w' : World) : Prop :=
 (∃ bt cs cs', c.S l = some (.box bt cs) ∧ o = .box bt cs' ∧ b = c.β l) ∨
 ∃ g sz e xs g' xs', c.S l = some (.arr false g sz e xs) ∧ o = .arr false g' sz e xs' ∧ (g < g' ∨ g = g' ∧ xs'.length = xs.length ∧ b = c.β l ∧
  ∀ cur fz, c.w.heap[c.β l]? = some (.cells cur e fz) → ∃ cur' fz', w'.heap[c.β l]? = some (.cells cur' e fz') ∧ cur'.size = cur.size)

theorem PutOk.mut {c : Ctx} {l : Loc} {o : Obj} {b : Nat} {w' : World} (h : PutOk c l o b w') : Mut c l := by
 rcases h with ⟨bt, cs, cs', h, _, _⟩ | ⟨g, sz, e, xs, g', xs', h, _, _⟩ <;> simp [Mut, h]

theorem ctxPut_kept {c : Ctx} {l : Loc} {o : Obj} {b : Nat} {w' : World} (hR : Rel c) (hD : c.D l) (hp : PutOk c l o b w')
  (hw : ∀ x, x < c.w.heap.size → x ≠ c.β l → w'.heap[x]? = c.w.heap[x]?) : Kept c (ctxPut c l o b w') := by
 have hm := hp.mut
 refine ⟨fun x hx => ⟨hx, hw x (hR.lt x hx) (fun e => hR.nsh l hD hm (e ▸ hx))⟩, fun m hm' => ?_, fun m ro g sz e xs hS => .inr ?_, fun m hS => ?_⟩
 ·obtain ⟨hDm, bt, cs, hS⟩ := hm'
  by_cases e : m = l
  ·subst e
   rcases hp with ⟨bt0, cs0, cs', h, ho, hb⟩ | ⟨g, sz, e, xs, g', xs', h, _, _⟩
   ·exact ⟨⟨hDm, bt0, cs', by rw [← ho]; exact upd_same _ _ _⟩, by simp [ctxPut, hb]⟩
   ·rw [h] at hS; cases hS
  ·exact ⟨⟨hDm, bt, cs, by simp only [ctxPut]; rw [upd_ne _ _ e]; exact hS⟩, by simp [ctxPut, e]⟩
 ·by_cases e' : m = l
  ·subst e'
   rcases hp with ⟨bt0, cs0, cs', h, ho, hb⟩ | ⟨g0, sz0, e0, xs0, g', xs', h, ho, hg⟩
   ·rw [h] at hS; cases hS
   ·rw [h] at hS
    obtain ⟨rfl, rfl, rfl, rfl, rfl⟩ : ro = false ∧ g0 = g ∧ sz0 = sz ∧ e0 = e ∧ xs0 = xs := by
     injection hS with hS; injection hS with h1 h2 h3 h4 h5; exact ⟨h1.symm, h2, h3, h4, h5⟩
    refine ⟨false, g', sz0, e0, xs', by rw [← ho]; exact upd_same _ _ _, by omega, fun hgg => ?_⟩
    obtain ⟨_, hlen, hb, hc⟩ : g0 = g' ∧ xs'.length = xs0.length ∧ b = c.β m ∧ _ := hg.resolve_left (by omega)
    exact ⟨rfl, rfl, hlen, fun hDm => ⟨hDm, by simp [ctxPut, hb], fun cur fz hcur => hc cur fz hcur⟩⟩
  ·refine ⟨ro, g, sz, e, xs, by simp only [ctxPut]; rw [upd_ne _ _ e']; exact hS, Nat.le_refl _, fun _ => ⟨rfl, rfl, rfl, fun hDm => ⟨hDm, by simp [ctxPut, e'], fun cur fz hc => ?_⟩⟩⟩
   by_cases hb : c.β m = c.β l
   ·cases ro with
    | false =>
     have : m = l := hR.inj m l hDm hD (by simp [Mut, hS]) hm hb
     exact absurd this e'
    | true =>
     obtain ⟨_, _, _, _, _, hsh, _⟩ := hR.arr m true g sz e xs hDm hS
     exact absurd (hb ▸ hsh rfl) (hR.nsh l hD hm)
   ·exact ⟨cur, fz, by simp only [ctxPut]; rw [hw _ (lt_of_get hc) hb]; exact hc, rfl⟩
 ·have e : m ≠ l := fun e => by subst e; rcases hp with ⟨_, _, _, h, _, _⟩ | ⟨_, _, _, _, _, _, h, _, _⟩ <;> (rw [h] at hS; cases hS)
  simp only [ctxPut]; rw [upd_ne _ _ e]; exact hS

theorem ctxPut_rel {c : Ctx} {l : Loc} {o : Obj} {b : Nat} {w' : World} (hR : Rel c) (hD : c.D l) (hp : PutOk c l o b w')
  (hw : ∀ x, x < c.w.heap.size → x ≠ c.β l → w'.heap[x]? = c.w.heap[x]?) (hsz : c.w.heap.size ≤ w'.heap.size) (hb : b = c.β l ∨ c.w.heap.size ≤ b)
  {cur : Array Value} {ty : TypeId} (hn : w'.heap[b]? = some (.cells cur ty (0, 0)))
  (hbx : ∀ bt cs, o = .box bt cs → bt = ty ∧ lvleL l.1 cs = true ∧ ∃ vs, cur = vs.toArray ∧ RepL c cs vs)
  (ha : ∀ ro g sz e xs, o = .arr ro g sz e xs → ty = e ∧ ∃ vs, RepE c sz xs vs ∧ cur.toList.take vs.length = vs) : Rel (ctxPut c l o b w') := by
 have hk := ctxPut_kept hR hD hp hw
 have hml := hp.mut
 have hmut : ∀ m, Mut (ctxPut c l o b w') m → Mut c m := fun m h => by
  by_cases e : m = l
  ·rw [e]; exact hml
  ·simpa [Mut, ctxPut, upd_ne _ _ e] using h
 have nb : ∀ m, c.D m → m ≠ l → ∀ o', c.S m = some o' → o' ≠ .gone → c.β m ≠ c.β l := fun m hDm e o' hS ho hβ => by
  cases o' with
  | gone => exact ho rfl
  | box bt cs => exact e (hR.inj m l hDm hD (by simp [Mut, hS]) hml hβ)
  | arr ro g sz e1 xs =>
   cases ro with
   | false => exact e (hR.inj m l hDm hD (by simp [Mut, hS]) hml hβ)
   | true =>
    obtain ⟨_, _, _, _, _, hsh, _⟩ := hR.arr m true g sz e1 xs hDm hS
    exact hR.nsh l hD hml (hβ ▸ hsh rfl)
 refine ⟨fun m bt cs hDm hS => ?_, fun m ro g sz e xs hDm hS => ?_, fun m hDm hm => ?_, fun m m' hDm hDm' hm hm' hβ => ?_, fun x hx => Nat.lt_of_lt_of_le (hR.lt x hx) hsz, fun m hDm hS => ?_⟩
 ·by_cases e : m = l
  ·subst e
   rw [show (ctxPut c m o b w').S m = some o from upd_same _ _ _] at hS
   obtain ⟨h0, h1, vs, h3, h4⟩ := hbx bt cs (Option.some.inj hS)
   subst h0
   exact ⟨h1, vs, by simp only [ctxPut, if_true]; rw [hn, h3], h4.kept hk⟩
  ·rw [show (ctxPut c l o b w').S m = c.S m from upd_ne _ _ e] at hS
   obtain ⟨h1, vs, h3, h4⟩ := hR.box m bt cs hDm hS
   exact ⟨h1, vs, by simp only [ctxPut, e, if_false]; rw [hw _ (lt_of_get h3) (nb m hDm e _ hS (by simp))]; exact h3, h4.kept hk⟩
 ·by_cases e' : m = l
  ·subst e'
   rw [show (ctxPut c m o b w').S m = some o from upd_same _ _ _] at hS
   obtain ⟨rfl, vs, h3, h4⟩ := ha ro g sz e xs (Option.some.inj hS)
   have hro : ro = false := by
    rcases hp with ⟨_, _, _, _, ho, _⟩ | ⟨_, _, _, _, _, _, _, ho, _⟩
    ·rw [ho] at hS; cases hS
    ·rw [ho] at hS; injection hS with hS; injection hS with h1; exact h1.symm
   subst hro
   refine ⟨cur, (0, 0), vs, by simp only [ctxPut, if_true]; exact hn, fun _ => rfl, ?_, h3.kept hk, h4⟩
   intro h; cases h
  ·rw [show (ctxPut c l o b w').S m = c.S m from upd_ne _ _ e'] at hS
   obtain ⟨cur', fz, vs, h3, h4, h5, h6, h7⟩ := hR.arr m ro g sz e xs hDm hS
   exact ⟨cur', fz, vs, by simp only [ctxPut, e', if_false]; rw [hw _ (lt_of_get h3) (nb m hDm e' _ hS (by simp))]; exact h3, h4, fun h => by simp only [ctxPut, e', if_false]; exact h5 h, h6.kept hk, h7⟩
 ·by_cases e : m = l
  ·subst e
   simp only [ctxPut, if_true]
   rcases hb with hb | hb
   ·rw [hb]; exact hR.nsh m hD hml
   ·intro h; have := hR.lt _ h; omega
  ·have := hR.nsh m hDm (hmut m hm)
   simpa [ctxPut, e] using this
 ·by_cases e : m = l
  ·by_cases e' : m' = l
   ·rw [e, e']
   ·simp only [ctxPut, e, e', if_true, if_false] at hβ
    rcases hb with hb | hb
    ·rw [e]; exact (hR.inj l m' hD hDm' hml (hmut m' hm') (by rw [← hb]; exact hβ))
    ·have := hR.mutLt hDm' (hmut m' hm'); omega
  ·by_cases e' : m' = l
   ·simp only [ctxPut, e, e', if_true, if_false] at hβ
    rcases hb with hb | hb
    ·rw [e']; exact (hR.inj m l hDm hD (hmut m hm) hml (by rw [← hb]; exact hβ))
    ·have := hR.mutLt hDm (hmut m hm); omega
   ·simp only [ctxPut, e, e', if_false] at hβ
    exact hR.inj m m' hDm hDm' (hmut m hm) (hmut m' hm') hβ
 ·by_cases e : m = l
  ·subst e
   rw [show (ctxPut c m o b w').S m = some o from upd_same _ _ _] at hS
   cases hS
  ·rw [show (ctxPut c l o b w').S m = c.S m from upd_ne _ _ e] at hS
   exact hR.dom m hDm hS

theorem ctxPut_fr {c : Ctx} {l : Loc} {o : Obj} {b : Nat} {w' : World} (hD : c.D l) (hp : PutOk c l o b w') (hc : Calm c.w w')
  (hw : ∀ x, x < c.w.heap.size → x ≠ c.β l → w'.heap[x]? = c.w.heap[x]?) (hsz : c.w.heap.size ≤ w'.heap.size) (hb : b = c.β l ∨ c.w.heap.size ≤ b) : Fr c (ctxPut c l o b w') := by
 refine ⟨hc.os, hc.tape, hc.output, hsz, fun x hx hn => hw x hx (fun e => hn l hD hp.mut e.symm), fun m hDm hm => ?_, fun b hb => .inl hb⟩
 by_cases e : m = l
 ·subst e
  rcases hb with hb | hb
  ·exact .inl ⟨hD, hp.mut, by simp [ctxPut, hb]⟩
  ·exact .inr (by simp only [ctxPut, if_true]; exact hb)
 ·exact .inl ⟨hDm, by simpa [Mut, ctxPut, upd_ne _ _ e] using hm, by simp [ctxPut, e]⟩

end Go.TM
