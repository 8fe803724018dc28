/- Calls: arguments go as lists where they can, else as places; results are taken in. -/
import Derived.Test.YtioldkniiilhnaaGreatDoorTmMove
set_option linter.all false
namespace Go.TM
open Go
set_option linter.unusedVariables false
set_option linter.unusedSimpArgs false

/-- What holds of the world all along, and the blocks it hangs on. -/
structure Glob where
 G : World → Prop
 B : Nat → Prop
 stable : ∀ w w' : World, G w → (∀ b, B b → w'.heap[b]? = w.heap[b]?) → G w'

def Good (γ : Glob) (c : Ctx) : Prop := γ.G c.w ∧ ∀ b, γ.B b → c.Sh b

theorem Good.kept {γ : Glob} {a b : Ctx} (h : Good γ a) (hk : ∀ x, a.Sh x → b.Sh x ∧ b.w.heap[x]? = a.w.heap[x]?) : Good γ b :=
 ⟨γ.stable _ _ h.1 fun x hx => (hk x (h.2 x hx)).2, fun x hx => (hk x (h.2 x hx)).1⟩

def Entered (P : Program) (f : FuncId) : Prop := ∃ fn, P.funcs[f]? = some fn ∧ (fn.name == "runtime.NumGoroutine") = false ∧ fn.body.isNone = false

def CallPost (L : Nat) (c : Ctx) (r : T) (S' : Store) : Ending → World → Prop
 | .returned v, w' => ∃ c', c'.w = w' ∧ Left L c r S' v c'
 | _, _ => False

/-- What the evaluator says of calls is so. -/
def CallOk (P : Program) (γ : Glob) (call : CallF) : Prop :=
 ∀ L f ts S r S', call L f ts S = some (r, S') → Entered P f ∧ ∀ c vs, c.S = S → Inv L c → Good γ c → RepL c ts vs → Calls P f vs.toArray c.w (CallPost L c r S')

theorem snapArgs_rep {c : Ctx} (hR : Rel c) (om : List Nat) {c' : Ctx} (hk : Kept c c') (hw : c'.w = c.w) : ∀ (ts : List T) (j : Nat) {us : List T} {ls : List Loc} {vs : List Value}, snapArgs om c.S j ts = some (us, ls) → RepL c ts vs →
  SnapOk c ls ∧ ((∀ l ∈ ls, c'.Sh (c.β l)) → RepL c' us vs)
 | [], j, us, ls, vs, h, hv => by
  simp only [snapArgs, Option.some.injEq, Prod.mk.injEq] at h
  obtain ⟨rfl, rfl⟩ := h
  cases hv
  exact ⟨(by intro l h; cases h), fun _ => .nil⟩
 | x :: xs, j, us, ls, vs, h, hv => by
  simp only [snapArgs] at h
  split at h
  ·rename_i y l ys ls' h1 h2
   simp only [Option.some.injEq, Prod.mk.injEq] at h
   obtain ⟨rfl, rfl⟩ := h
   cases hv with
   | cons _ v _ vs hx hr =>
    have hx' : SnapOk c l ∧ ((∀ q ∈ l, c'.Sh (c.β q)) → Rep c' y v) := by
     split at h1
     ·simp only [Option.some.injEq, Prod.mk.injEq] at h1
      obtain ⟨rfl, rfl⟩ := h1
      exact ⟨(by intro l h; cases h), fun _ => hx.kept hk⟩
     ·exact snap_rep hR hk hw x h1 hx
    obtain ⟨a1, a2⟩ := hx'
    obtain ⟨b1, b2⟩ := snapArgs_rep hR om hk hw xs (j + 1) h2 hr
    refine ⟨fun m hm => ?_, fun hsh => .cons _ _ _ _ (a2 fun m hm => hsh m (List.mem_append_left _ hm)) (b2 fun m hm => hsh m (List.mem_append_right _ hm))⟩
    rcases List.mem_append.1 hm with hm | hm
    ·exact a1 m hm
    ·exact b1 m hm
  ·cases h

theorem snapArgs_shut {c : Ctx} (hR : Rel c) {om : List Nat} {j : Nat} {ts us : List T} {ls : List Loc} {vs : List Value} (h : snapArgs om c.S j ts = some (us, ls)) (hv : RepL c ts vs) : RepL (ctxShut c ls) us vs := by
 obtain ⟨h1, h2⟩ := snapArgs_rep hR om (ctxShut_kept c ls) rfl ts j h hv
 exact h2 (ctxShut_sh h1)

theorem inv_shut {L : Nat} {c : Ctx} (hi : Inv L c) (ls : List Loc) : Inv L (ctxShut c ls) :=
 ⟨ctxShut_rel hi.rel ls, hi.lev, fun l hl => hi.full l fun h0 => hl (setRo_none.2 h0)⟩

/-- Time has gone by: no block of before has turned. -/
theorem late {L : Nat} {a : Ctx} (hi : Inv L a) {w' : World} {Sh' : Nat → Prop} (hc : Calm a.w w') (hsz : a.w.heap.size ≤ w'.heap.size) (hw : ∀ b, b < a.w.heap.size → w'.heap[b]? = a.w.heap[b]?)
  (h1 : ∀ b, a.Sh b → Sh' b) (h2 : ∀ b, Sh' b → b < w'.heap.size) (h3 : ∀ b, Sh' b → a.Sh b ∨ a.w.heap.size ≤ b) :
  Inv L { a with Sh := Sh', w := w' } ∧ Kept a { a with Sh := Sh', w := w' } ∧ Fr a { a with Sh := Sh', w := w' } := by
 have hk : Kept a { a with Sh := Sh', w := w' } := by
  refine ⟨fun b hb => ⟨h1 b hb, hw b (hi.rel.lt b hb)⟩, fun l hl => ⟨hl, rfl⟩, fun l ro g sz e xs hS => .inr ⟨ro, g, sz, e, xs, hS, Nat.le_refl _, fun _ => ⟨rfl, rfl, rfl, fun hD => ⟨hD, rfl, fun cur fz hh => ⟨cur, fz, ?_, rfl⟩⟩⟩⟩, fun l h => h⟩
  exact (hw _ (lt_of_get hh)).trans hh
 refine ⟨⟨⟨fun l bt cs hD hS => ?_, fun l ro g sz e xs hD hS => ?_, fun l hD hm hs => ?_, hi.rel.inj, h2, hi.rel.dom⟩, hi.lev, hi.full⟩, hk,
  ⟨hc.os, hc.tape, hc.output, hsz, fun b hb _ => hw b hb, fun l hD hm => .inl ⟨hD, hm, rfl⟩, fun b hb => (h3 b hb).imp id .inl⟩⟩
 ·obtain ⟨a1, vs, a3, a4⟩ := hi.rel.box l bt cs hD hS
  exact ⟨a1, vs, (hw _ (lt_of_get a3)).trans a3, a4.kept hk⟩
 ·obtain ⟨cur, fz, vs, a1, a2, a3, a4, a5⟩ := hi.rel.arr l ro g sz e xs hD hS
  exact ⟨cur, fz, vs, (hw _ (lt_of_get a1)).trans a1, a2, fun hr => h1 _ (a3 hr), a4.kept hk, a5⟩
 ·rcases h3 _ hs with h | h
  ·exact hi.rel.nsh l hD hm h
  ·have := hi.rel.mutLt (l := l) hD hm
   have h : a.w.heap.size ≤ a.β l := h
   omega

structure Taken (L : Nat) (a cB : Ctx) (r : T) (S' : Store) (v : Value) (c' : Ctx) : Prop where
 inv : Inv L c'
 S : c'.S = S'
 rep : Rep c' r v
 kept : Kept cB c'
 fr : Fr a c'
 new : ∀ l, c'.D l → cB.D l ∨ l.1 = L

theorem srcOf_nil (m k : Nat) (l : Loc) : srcOf [] m k l = none := by unfold srcOf; split <;> simp

theorem takeIn_sound {a cB cP : Ctx} {n L : Nat} {d : Option Tmp} {r r' : T} {S' : Store} {v : Value} (h : takeIn n L d r cP.S cB.S = some (r', S')) (hr : Rep cP r v) (hrs : ShGo cP cB (hasLst r))
  (hmk : ∀ k, packOk n (dedup (locsOf n r)) cP.S = true → (∀ l, srcOf (dedup (locsOf n r)) L k l ≠ none → cB.S l = none) → AddOk cB cP n (dedup (locsOf n r)) L k)
  (hfr : Fr a cB) (hq : ∀ q ∈ dedup (locsOf n r), cP.D q → Mut cP q → a.w.heap.size ≤ cP.β q) : ∃ c', c'.w = cB.w ∧ Taken L a cB r' S' v c' := by
 have mk : ∀ k, AddOk cB cP n (dedup (locsOf n r)) L k → Taken L a cB (rename cP.S (packF n (dedup (locsOf n r)) L k) (fun p => p.1 == n) r) (addS n (dedup (locsOf n r)) L k cP.S cB.S) v (addC cB cP n (dedup (locsOf n r)) L k) := by
  intro k hok
  refine ⟨addC_inv hok, rfl, rename_rep (addC_move hok) r (hrs.imp id id) hr, addC_kept hok, addC_fr hok hfr hq, fun l hD => ?_⟩
  rcases hD with hD | hD
  ·exact .inl hD
  ·cases hs : srcOf (dedup (locsOf n r)) L k l with
   | none => exact absurd hs hD
   | some q => exact .inr (addC_grp hok hs).2.1
 unfold takeIn at h
 split at h
 ·rename_i hnil
  split at h
  ·rename_i hl
   simp only [Option.some.injEq, Prod.mk.injEq] at h
   obtain ⟨rfl, rfl⟩ := h
   have hok := hmk 0 (by rw [hnil]; rfl) (fun l hl => absurd (by rw [hnil]; exact srcOf_nil _ _ _) hl)
   have := mk 0 hok
   have h0 : locsOf n r = [] := by
    cases hx : locsOf n r with
    | nil => rfl
    | cons x xs => rw [hx] at hnil; simp [dedup] at hnil
   rw [rename_none (n := n) (fun l hl => by simp [packF, hl]) r h0] at this
   refine ⟨addC cB cP n (dedup (locsOf n r)) L 0, rfl, ?_⟩
   have hS : addS n (dedup (locsOf n r)) L 0 cP.S cB.S = cB.S := by
    funext l
    rw [hnil]
    simp [addS, srcOf_nil]
   rw [hS] at this
   exact this
  ·cases h
 ·rename_i d hne
  split at h
  ·rename_i hc
   simp only [Bool.and_eq_true, decide_eq_true_eq] at hc
   obtain ⟨⟨⟨h1, h2⟩, h3⟩, h4⟩ := hc
   simp only [Option.some.injEq, Prod.mk.injEq] at h
   obtain ⟨rfl, rfl⟩ := h
   refine ⟨addC cB cP n (dedup (locsOf n r)) L (1000 * (d + 1)), rfl, mk _ (hmk _ h1 fun l hl => ?_)⟩
   cases hs : srcOf (dedup (locsOf n r)) L (1000 * (d + 1)) l with
   | none => exact absurd hs hl
   | some q =>
    unfold srcOf at hs
    split at hs
    ·rename_i hlv
     have hlen := (List.getElem?_eq_some_iff.1 hs).1
     have := List.all_eq_true.1 h4 (l.2 - 1000 * (d + 1)) (by simpa using hlen)
     simp only [Option.isNone_iff_eq_none] at this
     have e : (L, 1000 * (d + 1) + (l.2 - 1000 * (d + 1))) = l := by
      ext
      ·exact hlv.1.symm
      ·have := hlv.2
       show 1000 * (d + 1) + (l.2 - 1000 * (d + 1)) = l.2
       exact Nat.add_sub_cancel' this
     rw [e] at this
     exact this
    ·cases hs
  ·cases h
 ·cases h

theorem setRo_nil (S : Store) : setRo S [] = S := by
 funext l
 unfold setRo
 cases S l with
 | none => rfl
 | some o => cases o <;> simp

theorem cut_rep {L : Nat} {c : Ctx} {t : T} {v : Value} (ht : lvle L t = true) (hv : Rep c t v) : Rep (cut L c) t v := by
 have hm : Move c (cut L c) (fun l => if l.1 ≤ L then some l else none) (fun l => decide (L < l.1)) := by
  refine ⟨rfl, ?_, ?_, ?_, ?_, fun l hz hS => ?_⟩
  ·intro l m hf hz; simp at hf hz; omega
  ·intro l m hf hz; simp at hf hz; omega
  ·intro l m hf hz; simp at hf hz; omega
  ·intro l m hf hz; simp at hf hz; omega
  ·simp at hz
   refine ⟨by simp [hz], by simp [cut, trunc, hz], fun hD => ⟨⟨hD, hz⟩, rfl⟩⟩
 have := rename_rep hm t (.inl fun x hx => hx) hv
 rwa [rename_id (k := L) (fun l hl => by simp; omega) t ht] at this
theorem cut_repL {L : Nat} {c : Ctx} : ∀ {ts : List T} {vs : List Value}, lvleL L ts = true → RepL c ts vs → RepL (cut L c) ts vs
 | [], vs, _, hv => by cases hv; exact .nil
 | x :: xs, vs, hl, hv => by
  simp only [lvleL, Bool.and_eq_true] at hl
  cases hv with
  | cons _ v _ vs hx hr => exact .cons _ _ _ _ (cut_rep hl.1 hx) (cut_repL hl.2 hr)

theorem lay_lo {L : Nat} {S1 S : Store} {l : Loc} (h : l.1 ≤ L) : lay L S1 S l = S1 l := by
 unfold lay; rw [Nat.ble_eq_true_of_le h]; rfl
theorem lay_hi {L : Nat} {S1 S : Store} {l : Loc} (h : ¬ l.1 ≤ L) : lay L S1 S l = S l := by
 unfold lay
 have : Nat.ble l.1 L = false := by
  cases hb : Nat.ble l.1 L with
  | false => rfl
  | true => exact absurd (Nat.le_of_ble_eq_true hb) h
 rw [this]; rfl

/-- After a call from the level below, with the caller's own level laid back over. -/
def layC (L : Nat) (cP a : Ctx) : Ctx := ⟨lay L cP.S a.S, fun l => (l.1 ≤ L ∧ cP.D l) ∨ (¬ l.1 ≤ L ∧ a.D l), fun l => if l.1 ≤ L then cP.β l else a.β l, cP.Sh, cP.w⟩

theorem low_sound {L : Nat} {a : Ctx} (hi : Inv (L + 1) a) {r : T} {S1 : Store} {v : Value} {cP : Ctx} (h : Left L (cut L a) r S1 v cP) (hcl : lvle L r = true) :
  (layC L cP a).S = lay L S1 a.S ∧ Inv (L + 1) (layC L cP a) ∧ Rep (layC L cP a) r v ∧ Kept a (layC L cP a) ∧ Fr a (layC L cP a) ∧ ∀ l, (layC L cP a).D l → a.D l ∨ 1 ≤ l.1 := by
 have Slo : ∀ {l : Loc}, l.1 ≤ L → (layC L cP a).S l = cP.S l := fun h => lay_lo h
 have Shi : ∀ {l : Loc}, ¬ l.1 ≤ L → (layC L cP a).S l = a.S l := fun h => lay_hi h
 have Dlo : ∀ {l : Loc}, l.1 ≤ L → ((layC L cP a).D l ↔ cP.D l) := fun {l} h => ⟨fun x => x.elim (fun y => y.2) (fun y => absurd h y.1), fun x => .inl ⟨h, x⟩⟩
 have Dhi : ∀ {l : Loc}, ¬ l.1 ≤ L → ((layC L cP a).D l ↔ a.D l) := fun {l} h => ⟨fun x => x.elim (fun y => absurd y.1 h) (fun y => y.2), fun x => .inr ⟨h, x⟩⟩
 have Blo : ∀ {l : Loc}, l.1 ≤ L → (layC L cP a).β l = cP.β l := fun {l} h => by simp [layC, h]
 have Bhi : ∀ {l : Loc}, ¬ l.1 ≤ L → (layC L cP a).β l = a.β l := fun {l} h => by simp [layC, h]
 have Mlo : ∀ {l : Loc}, l.1 ≤ L → Mut (layC L cP a) l → Mut cP l := fun {l} h hm => by unfold Mut at hm ⊢; rwa [Slo h] at hm
 have Mhi : ∀ {l : Loc}, ¬ l.1 ≤ L → Mut (layC L cP a) l → Mut a l := fun {l} h hm => by unfold Mut at hm ⊢; rwa [Shi h] at hm
 have sh : ∀ b, a.Sh b → cP.Sh b ∧ cP.w.heap[b]? = a.w.heap[b]? := fun b hb => h.kept.sh b hb
 have blk : ∀ l : Loc, ¬ l.1 ≤ L → a.D l → Mut a l → cP.w.heap[a.β l]? = a.w.heap[a.β l]? := fun l hl hD hm =>
  h.fr.blk _ (hi.rel.mutLt hD hm) fun l' hD' hm' he => by
   have := hi.rel.inj l' l hD'.1 hD (cut_mut hm') hm he
   subst this
   exact hl hD'.2
 have kA : Kept a (layC L cP a) := by
  refine ⟨sh, fun l hl => ?_, fun l ro g sz e xs hS => ?_, fun l hS => ?_⟩
  ·obtain ⟨hD, bt, cs, hS⟩ := hl
   by_cases hl : l.1 ≤ L
   ·obtain ⟨⟨hD', bt', cs', hS'⟩, hβ⟩ := h.kept.box l ⟨⟨hD, hl⟩, bt, cs, trunc_some.2 ⟨hl, hS⟩⟩
    exact ⟨⟨(Dlo hl).2 hD', bt', cs', by rw [Slo hl]; exact hS'⟩, by rw [Blo hl]; exact hβ⟩
   ·exact ⟨⟨(Dhi hl).2 hD, bt, cs, by rw [Shi hl]; exact hS⟩, Bhi hl⟩
  ·by_cases hl : l.1 ≤ L
   ·rw [Slo hl, Blo hl]
    rcases h.kept.arr l ro g sz e xs (trunc_some.2 ⟨hl, hS⟩) with hg | ⟨ro', g', sz', e', xs', h1, h2, h3⟩
    ·exact .inl hg
    ·refine .inr ⟨ro', g', sz', e', xs', h1, h2, fun hg => ?_⟩
     obtain ⟨a1, a2, a3, a4⟩ := h3 hg
     exact ⟨a1, a2, a3, fun hD => ⟨(Dlo hl).2 (a4 ⟨hD, hl⟩).1, (a4 ⟨hD, hl⟩).2.1, (a4 ⟨hD, hl⟩).2.2⟩⟩
   ·rw [Shi hl, Bhi hl]
    refine .inr ⟨ro, g, sz, e, xs, hS, Nat.le_refl _, fun _ => ⟨rfl, rfl, rfl, fun hD => ⟨(Dhi hl).2 hD, rfl, fun cur fz hh => ⟨cur, fz, ?_, rfl⟩⟩⟩⟩
    show cP.w.heap[a.β l]? = _
    cases ro with
    | true =>
     obtain ⟨_, _, _, _, _, h3, _⟩ := hi.rel.arr l true g sz e xs hD hS
     rw [(sh _ (h3 rfl)).2]; exact hh
    | false => rw [blk l hl hD (by unfold Mut; rw [hS])]; exact hh
  ·by_cases hl : l.1 ≤ L
   ·rw [Slo hl]; exact h.kept.gone l (trunc_some.2 ⟨hl, hS⟩)
   ·rw [Shi hl]; exact hS
 have kP : Kept (cut L cP) (layC L cP a) := by
  refine ⟨fun b hb => ⟨hb, rfl⟩, fun l hl => ?_, fun l ro g sz e xs hS => ?_, fun l hS => ?_⟩
  ·obtain ⟨hD, bt, cs, hS⟩ := hl
   exact ⟨⟨(Dlo hD.2).2 hD.1, bt, cs, by rw [Slo hD.2]; exact (trunc_some.1 hS).2⟩, Blo hD.2⟩
  ·obtain ⟨hl, hS⟩ := trunc_some.1 hS
   rw [Slo hl, Blo hl]
   exact .inr ⟨ro, g, sz, e, xs, hS, Nat.le_refl _, fun _ => ⟨rfl, rfl, rfl, fun hD => ⟨(Dlo hl).2 hD.1, rfl, fun cur fz hh => ⟨cur, fz, hh, rfl⟩⟩⟩⟩
  ·obtain ⟨hl, hS⟩ := trunc_some.1 hS
   rw [Slo hl]; exact hS
 have iP : Inv L (cut L cP) := cut_inv h.inv
 have own : ∀ l : Loc, l.1 ≤ L → cP.D l → Mut cP l → ∀ m : Loc, ¬ m.1 ≤ L → a.D m → Mut a m → cP.β l ≠ a.β m := fun l hl hD hm m hm1 hDm hmm he => by
  rcases h.fr.own l hD hm with ⟨h1, h2, h3⟩ | h1
  ·have h3 : cP.β l = a.β l := h3
   have := hi.rel.inj l m h1.1 hDm (cut_mut h2) hmm (by rw [← h3, he])
   subst this
   exact hm1 hl
  ·have h1 : a.w.heap.size ≤ cP.β l := h1
   have := hi.rel.mutLt hDm hmm
   omega
 refine ⟨by show lay L cP.S a.S = _; rw [h.S], ⟨⟨fun l bt cs hD hS => ?_, fun l ro g sz e xs hD hS => ?_, fun l hD hm => ?_, fun l l' hD hD' hm hm' he => ?_, h.inv.rel.lt, fun l hD => ?_⟩, fun l hD => ?_, fun l hS => ?_⟩,
  (cut_rep hcl h.rep).kept kP, kA, ⟨h.fr.os, h.fr.tape, h.fr.output, h.fr.size, fun b hb hn => ?_, fun l hD hm => ?_, fun b hb => ?_⟩, fun l hD => ?_⟩
 ·by_cases hl : l.1 ≤ L
  ·obtain ⟨h1, vs, h3, h4⟩ := iP.rel.box l bt cs ⟨(Dlo hl).1 hD, hl⟩ (trunc_some.2 ⟨hl, by rwa [Slo hl] at hS⟩)
   exact ⟨h1, vs, by rw [Blo hl]; exact h3, h4.kept kP⟩
  ·rw [Shi hl] at hS
   obtain ⟨h1, vs, h3, h4⟩ := hi.rel.box l bt cs ((Dhi hl).1 hD) hS
   exact ⟨h1, vs, by rw [Bhi hl]; exact (blk l hl ((Dhi hl).1 hD) (by unfold Mut; rw [hS]; trivial)).trans h3, h4.kept kA⟩
 ·by_cases hl : l.1 ≤ L
  ·obtain ⟨cur, fz, vs, h1, h2, h3, h4, h5⟩ := iP.rel.arr l ro g sz e xs ⟨(Dlo hl).1 hD, hl⟩ (trunc_some.2 ⟨hl, by rwa [Slo hl] at hS⟩)
   exact ⟨cur, fz, vs, by rw [Blo hl]; exact h1, h2, fun hr => by rw [Blo hl]; exact h3 hr, repE_kept (c := cut L cP) (c' := layC L cP a) (fun b hb => ⟨hb, rfl⟩) h4, h5⟩
  ·rw [Shi hl] at hS
   have hD := (Dhi hl).1 hD
   obtain ⟨cur, fz, vs, h1, h2, h3, h4, h5⟩ := hi.rel.arr l ro g sz e xs hD hS
   refine ⟨cur, fz, vs, ?_, h2, fun hr => by rw [Bhi hl]; exact (sh _ (h3 hr)).1, repE_kept (c := a) (c' := layC L cP a) sh h4, h5⟩
   rw [Bhi hl]
   show cP.w.heap[a.β l]? = _
   cases ro with
   | true => rw [(sh _ (h3 rfl)).2]; exact h1
   | false => rw [blk l hl hD (by unfold Mut; rw [hS])]; exact h1
 ·by_cases hl : l.1 ≤ L
  ·rw [Blo hl]; exact h.inv.rel.nsh l ((Dlo hl).1 hD) (Mlo hl hm)
  ·rw [Bhi hl]
   intro hs
   have hD := (Dhi hl).1 hD
   have hm := Mhi hl hm
   rcases h.fr.shn _ hs with h1 | h1 | ⟨l', h1, h2, h3⟩
   ·exact hi.rel.nsh l hD hm h1
   ·have h1 : a.w.heap.size ≤ a.β l := h1
    have := hi.rel.mutLt hD hm
    omega
   ·have := hi.rel.inj l' l h1.1 hD (cut_mut h2) hm h3
    subst this
    exact hl h1.2
 ·by_cases hl : l.1 ≤ L <;> by_cases hl' : l'.1 ≤ L
  ·rw [Blo hl, Blo hl'] at he
   exact h.inv.rel.inj l l' ((Dlo hl).1 hD) ((Dlo hl').1 hD') (Mlo hl hm) (Mlo hl' hm') he
  ·rw [Blo hl, Bhi hl'] at he
   exact absurd he (own l hl ((Dlo hl).1 hD) (Mlo hl hm) l' hl' ((Dhi hl').1 hD') (Mhi hl' hm'))
  ·rw [Bhi hl, Blo hl'] at he
   exact absurd he.symm (own l' hl' ((Dlo hl').1 hD') (Mlo hl' hm') l hl ((Dhi hl).1 hD) (Mhi hl hm))
  ·rw [Bhi hl, Bhi hl'] at he
   exact hi.rel.inj l l' ((Dhi hl).1 hD) ((Dhi hl').1 hD') (Mhi hl hm) (Mhi hl' hm') he
 ·by_cases hl : l.1 ≤ L
  ·rw [Slo hl]; exact h.inv.rel.dom l ((Dlo hl).1 hD)
  ·rw [Shi hl]; exact hi.rel.dom l ((Dhi hl).1 hD)
 ·by_cases hl : l.1 ≤ L
  ·omega
  ·exact hi.lev l ((Dhi hl).1 hD)
 ·by_cases hl : l.1 ≤ L
  ·rw [Slo hl] at hS; exact (Dlo hl).2 (h.inv.full l hS)
  ·rw [Shi hl] at hS; exact (Dhi hl).2 (hi.full l hS)
 ·exact h.fr.blk b hb fun l hD hm => hn l hD.1 (cut_mut hm)
 ·by_cases hl : l.1 ≤ L
  ·rw [Blo hl]
   rcases h.fr.own l ((Dlo hl).1 hD) (Mlo hl hm) with ⟨h1, h2, h3⟩ | h1
   ·exact .inl ⟨h1.1, cut_mut h2, h3⟩
   ·exact .inr h1
  ·exact .inl ⟨(Dhi hl).1 hD, Mhi hl hm, Bhi hl⟩
 ·rcases h.fr.shn b hb with h1 | h1 | ⟨l, h1, h2, h3⟩
  ·exact .inl h1
  ·exact .inr (.inl h1)
  ·exact .inr (.inr ⟨l, h1.1, cut_mut h2, h3⟩)
 ·by_cases hl : l.1 ≤ L
  ·exact (h.new l ((Dlo hl).1 hD)).imp (fun h => h.1) id
  ·exact .inl ((Dhi hl).1 hD)

def StpPost (L : Nat) (c : Ctx) (re : Res) : Ending → World → Prop
 | .returned v, w' => ∃ c', c'.w = w' ∧ Stp L c re.S re.t v c'
 | _, _ => False

theorem goT_sound {P : Program} {γ : Glob} {call : CallF} (hcall : CallOk P γ call) {om : FuncId → List Nat} {L : Nat} {d : Option Tmp} {c : Ctx} (hi : Inv L c) (hg : Good γ c) {g : FuncId} {args caps : List T} {re : Res}
  (h : goT call om L d c.S g args caps = some re) {avs cvs : List Value} (ha : RepL c args avs) (hc : RepL c caps cvs) :
  Entered P g ∧ Calls P g (avs ++ cvs).toArray c.w (StpPost L c re) := by
 unfold goT at h
 split at h
 ·rename_i as ls hsn
  have hi1 := inv_shut hi ls
  have hag := snapArgs_shut hi.rel hsn ha
  have hcg := hc.kept (ctxShut_kept c ls)
  split at h
  ·rename_i hcl
   simp only [Bool.and_eq_true, List.isEmpty_iff] at hcl
   obtain ⟨hcl, rfl⟩ := hcl
   cases hcg
   split at h
   ·rename_i r S1 hcallr
    cases htk : takeIn 1 L d r S1 (keepS ls r S1 c.S) with
    | none => simp [htk] at h
    | some p =>
     obtain ⟨r', S2⟩ := p
     simp only [htk, Option.map_some, Option.some.injEq] at h
     subst h
     obtain ⟨hent, hcs⟩ := hcall _ _ _ _ _ _ hcallr
     refine ⟨hent, ?_⟩
     have hc1 : Inv 0 ({ S := emp, D := fun _ => False, β := c.β, Sh := (ctxShut c ls).Sh, w := c.w } : Ctx) :=
      ⟨⟨fun l bt cs hD => hD.elim, fun l ro g sz e xs hD => hD.elim, fun l hD => hD.elim, fun l l' hD => hD.elim, hi1.rel.lt, fun l hD => hD.elim⟩, fun l hD => hD.elim, fun l hl => absurd rfl hl⟩
     have := hcs _ (avs ++ []) rfl hc1 ⟨hg.1, fun b hb => .inl (hg.2 b hb)⟩ (by
      rw [List.append_nil]
      exact closedL_kept (c := ctxShut c ls) (c' := { S := emp, D := fun _ => False, β := c.β, Sh := (ctxShut c ls).Sh, w := c.w }) (fun b hb => ⟨hb, rfl⟩) hcl hag)
     refine Calls.mono this fun e w' he => ?_
     cases e with
     | panicked ch => exact he.elim
     | outgrown => exact he.elim
     | returned v =>
      obtain ⟨cP, rfl, hL⟩ := he
      have hold : ∀ b, b < c.w.heap.size → cP.w.heap[b]? = c.w.heap[b]? := fun b hb => hL.fr.blk b hb fun l hD => hD.elim
      have hlow : ∀ l, l.1 < 1 → cP.S l ≠ none → False := fun l hl hS => by
       rcases hL.new l (hL.inv.full l hS) with h | h
       ·exact h
       ·omega
      have hqs : ∀ q, cP.D q → Mut cP q → c.w.heap.size ≤ cP.β q := fun q hD hm => by
       rcases hL.fr.own q hD hm with ⟨h, _⟩ | h
       ·exact h.elim
       ·exact h
     
      have fin : ∀ a : Ctx, a.w = c.w → Inv L a → Kept c a → Fr c a → (∀ l, a.D l → c.D l) → a.S = keepS ls r S1 c.S →
        (∀ Sh' : Nat → Prop, (∀ b, a.Sh b → Sh' b) → (∀ b, Sh' b → b < cP.w.heap.size) → (∀ b, Sh' b → a.Sh b ∨ c.w.heap.size ≤ b) → ((∀ b, cP.Sh b → Sh' b) ∨ (hasLst r = false ∧ arrLst S1 (dedup (locsOf 1 r)) = false)) →
         (∀ q, cP.D q → Mut cP q → ¬ Sh' (cP.β q)) →
         StpPost L c ⟨r', S2, 1⟩ (.returned v) cP.w) := by
       intro a haw hia hka hfa hDa hSa Sh' s1 s2 s3 s4 s5
       obtain ⟨hiB, hkB, hfB⟩ := late hia (w' := cP.w) (Sh' := Sh') ⟨by rw [haw]; exact hL.fr.os, by rw [haw]; exact hL.fr.tape, by rw [haw]; exact hL.fr.output⟩ (by rw [haw]; exact hL.fr.size)
        (by rw [haw]; exact hold) s1 s2 (by rw [haw]; exact s3)
       have htk' : takeIn 1 L d r cP.S ({ a with Sh := Sh', w := cP.w } : Ctx).S = some (r', S2) := by
        show takeIn 1 L d r cP.S a.S = _
        rw [hL.S, hSa]; exact htk
       refine Exists.elim (takeIn_sound (a := c) htk' hL.rep (s4.imp id fun h => h.1) (fun k hok hf => ?_) (hfa.trans hfB) (fun q _ hD hm => hqs q hD hm)) fun c' hc' => ?_
       rotate_left
       ·obtain ⟨hw', hT⟩ := hc'
        refine ⟨c', hw', ?_⟩
        exact ⟨hT.inv.rel, hka.trans (hkB.trans hT.kept), hT.fr, hT.S, hT.rep, hT.inv.lev, fun l hl => (hT.new l hl).imp (hDa l) .inl, fun _ => hT.inv.full⟩
       ·refine ⟨hL.inv, hiB, rfl, by omega, by omega, fun q hq => locsOf_lev r (mem_dedup.1 hq), nodup_dedup _, hok, hf, fun l hl hS => (hlow l hl hS).elim, s4.imp id fun h => by rw [hL.S]; exact h.2, fun q hq hD hm => ⟨s5 q hD hm, fun l hD' hm' he => ?_⟩⟩
        have h1 := hia.rel.mutLt (l := l) hD' hm'
        have h2 := hqs q hD hm
        rw [haw] at h1
        have : a.β l = cP.β q := he
        omega
      have cut1 : ∀ b, cP.Sh b → (ctxShut c ls).Sh b ∨ c.w.heap.size ≤ b := fun b hb => by
       rcases hL.fr.shn b hb with h | h | ⟨l, h, _⟩
       ·exact .inl h
       ·exact .inr h
       ·exact h.elim
      have shutWay : setRo c.S ls = keepS ls r S1 c.S → StpPost L c ⟨r', S2, 1⟩ (.returned v) cP.w := fun hk =>
       fin (ctxShut c ls) rfl hi1 (ctxShut_kept c ls) (ctxShut_fr hi.rel ls) (fun l h => h) hk cP.Sh (fun b hb => (hL.kept.sh b hb).1) hL.inv.rel.lt cut1 (.inl fun b hb => hb) (fun q hD hm => hL.inv.rel.nsh q hD hm)
      by_cases hb : (!ls.isEmpty && (hasLst r || arrLst S1 (dedup (locsOf 1 r)))) = true
      ·exact shutWay (by simp [keepS, hb])
      ·have hk : keepS ls r S1 c.S = c.S := by simp only [keepS]; rw [Bool.not_eq_true] at hb; rw [hb]; rfl
       cases hls : ls with
       | nil => exact shutWay (by rw [hk, hls, setRo_nil])
       | cons x xs =>
        have hb' : hasLst r = false ∧ arrLst S1 (dedup (locsOf 1 r)) = false := by
         rw [hls] at hb
         simpa using hb
        refine fin c rfl hi (.refl c) (.refl c) (fun l h => h) hk.symm c.Sh (fun b h => h) (fun b h => ?_) (fun b h => .inl h) (.inr hb') (fun q hD hm h => ?_)
        ·have := hi.rel.lt b h
         have := hL.fr.size
         have e : ({ S := emp, D := fun _ => False, β := c.β, Sh := (ctxShut c ls).Sh, w := c.w } : Ctx).w.heap.size = c.w.heap.size := rfl
         omega
        ·have := hi.rel.lt _ h
         have := hqs q hD hm
         omega
   ·cases h
  split at h
  ·rename_i hlow
   unfold lowC at hlow
   simp only [Bool.and_eq_true] at hlow
   obtain ⟨⟨_, h0⟩, hlv⟩ := hlow
   have h0 : 0 < L := by rw [Nat.blt_eq] at h0; exact h0
   obtain ⟨L0, rfl⟩ : ∃ L0, L = L0 + 1 := ⟨L - 1, by omega⟩
   rw [Nat.add_sub_cancel] at h hlv
   split at h
   ·rename_i r S1 hcallr
    split at h
    ·rename_i hcr
     simp only [Option.some.injEq] at h
     subst h
     obtain ⟨hent, hcs⟩ := hcall _ _ _ _ _ _ hcallr
     refine ⟨hent, ?_⟩
     have := hcs (cut L0 (ctxShut c ls)) (avs ++ cvs) rfl (cut_inv hi1) (hg.kept (ctxShut_kept c ls).sh) (cut_repL hlv (hag.append hcg))
     refine Calls.mono this fun e w' he => ?_
     cases e with
     | panicked ch => exact he.elim
     | outgrown => exact he.elim
     | returned v =>
      obtain ⟨cP, rfl, hL⟩ := he
      obtain ⟨a1, a2, a3, a4, a5, a6⟩ := low_sound hi1 hL hcr
      exact ⟨layC L0 cP (ctxShut c ls), rfl, a2.rel, (ctxShut_kept c ls).trans a4, (ctxShut_fr hi.rel ls).trans a5, a1, a3, a2.lev, fun l hl => (a6 l hl).imp id .inr, fun _ => a2.full⟩
    ·cases h
   ·cases h
  ·split at h
   ·rename_i r S1 hcallr
    cases htk : takeIn (L + 1) L d r S1 (trunc L S1) with
    | none => simp [htk] at h
    | some p =>
     obtain ⟨r', S2⟩ := p
     simp only [htk, Option.map_some, Option.some.injEq] at h
     subst h
     obtain ⟨hent, hcs⟩ := hcall _ _ _ _ _ _ hcallr
     refine ⟨hent, ?_⟩
     have := hcs (ctxShut c ls) (avs ++ cvs) rfl hi1 (hg.kept (ctxShut_kept c ls).sh) (hag.append hcg)
     refine Calls.mono this fun e w' he => ?_
     cases e with
     | panicked ch => exact he.elim
     | outgrown => exact he.elim
     | returned v =>
      obtain ⟨cP, rfl, hL⟩ := he
      have htk' : takeIn (L + 1) L d r cP.S (cut L cP).S = some (r', S2) := by
       show takeIn (L + 1) L d r cP.S (trunc L cP.S) = _
       rw [hL.S]; exact htk
      have hfr : Fr c cP := (ctxShut_fr hi.rel ls).trans hL.fr
      refine Exists.elim (takeIn_sound (a := c) htk' hL.rep (.inl fun b hb => hb) (fun k hok hf => pack_addOk hL.inv hok (.inr rfl) hf) (cut_fr hfr) (fun q hq hD hm => ?_)) fun c' hc' => ?_
      rotate_left
      ·obtain ⟨hw', hT⟩ := hc'
       refine ⟨c', hw', hT.inv.rel, ?_, hT.fr, hT.S, hT.rep, hT.inv.lev, fun l hl => ?_, fun _ => hT.inv.full⟩
       ·exact (ctxShut_kept c ls).trans ((cut_full hi1.lev hi1.full).trans ((cut_kept_cut (cut_kept_self L hL.kept)).trans hT.kept))
       ·rcases hT.new l hl with h | h
        ·rcases hL.new l h.1 with h' | h'
         ·exact .inl h'
         ·exact .inr (.inr h')
        ·exact .inr (.inl h)
      ·rcases hfr.own q hD hm with ⟨h1, _, _⟩ | h1
       ·have h2 := hi.lev q h1
        have h3 := locsOf_lev r (mem_dedup.1 hq)
        omega
       ·exact h1
   ·cases h
 ·cases h

end Go.TM
