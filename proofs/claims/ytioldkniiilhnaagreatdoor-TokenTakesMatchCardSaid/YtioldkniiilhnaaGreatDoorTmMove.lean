/- Places are taken along to another level; the head of a round. -/
import Derived.Test.YtioldkniiilhnaaGreatDoorTmRen
set_option linter.all false
namespace Go.TM
open Go
set_option linter.unusedVariables false
set_option linter.unusedSimpArgs false

structure Inv (n : Nat) (c : Ctx) : Prop where
 rel : Rel c
 lev : ∀ l, c.D l → l.1 ≤ n
 full : ∀ l, c.S l ≠ none → c.D l

def cut (L : Nat) (c : Ctx) : Ctx := { c with S := trunc L c.S, D := fun l => c.D l ∧ l.1 ≤ L }

theorem trunc_some {L : Nat} {S : Store} {l : Loc} {o : Obj} : trunc L S l = some o ↔ l.1 ≤ L ∧ S l = some o := by
 unfold trunc
 by_cases h : l.1 ≤ L
 ·simp [h]
 ·simp only [h, if_false, false_and]; simp

theorem cut_mut {L : Nat} {c : Ctx} {l : Loc} (h : Mut (cut L c) l) : Mut c l := by
 by_cases hl : l.1 ≤ L
 ·simpa [Mut, cut, trunc, hl] using h
 ·simp [Mut, cut, trunc, hl] at h

theorem cut_kept_self (L : Nat) {a b : Ctx} (h : Kept a b) : Kept (cut L a) b := by
 refine ⟨h.sh, fun l hl => ?_, fun l ro g sz e xs hS => ?_, fun l hl => h.gone l (trunc_some.1 hl).2⟩
 ·obtain ⟨hD, bt, cs, hS⟩ := hl
  exact h.box l ⟨hD.1, bt, cs, (trunc_some.1 hS).2⟩
 ·obtain ⟨hl, hS⟩ := trunc_some.1 hS
  rcases h.arr l ro g sz e xs hS with hg | ⟨ro', g', sz', e', xs', h1, h2, h3⟩
  ·exact .inl hg
  ·refine .inr ⟨ro', g', sz', e', xs', h1, h2, fun hg => ?_⟩
   obtain ⟨a1, a2, a3, a4⟩ := h3 hg
   exact ⟨a1, a2, a3, fun hD => a4 hD.1⟩

theorem cut_kept_cut {L : Nat} {a b : Ctx} (h : Kept (cut L a) b) : Kept (cut L a) (cut L b) := by
 refine ⟨h.sh, fun l hl => ?_, fun l ro g sz e xs hS => ?_, fun l hl => trunc_some.2 ⟨(trunc_some.1 hl).1, h.gone l hl⟩⟩
 ·obtain ⟨⟨hD, bt, cs, hS⟩, hβ⟩ := h.box l hl
  obtain ⟨_, bt0, cs0, hS0⟩ := hl
  have hlv := (trunc_some.1 hS0).1
  exact ⟨⟨⟨hD, hlv⟩, bt, cs, trunc_some.2 ⟨hlv, hS⟩⟩, hβ⟩
 ·have hlv := (trunc_some.1 hS).1
  rcases h.arr l ro g sz e xs hS with hg | ⟨ro', g', sz', e', xs', h1, h2, h3⟩
  ·exact .inl (trunc_some.2 ⟨hlv, hg⟩)
  ·refine .inr ⟨ro', g', sz', e', xs', trunc_some.2 ⟨hlv, h1⟩, h2, fun hg => ?_⟩
   obtain ⟨a1, a2, a3, a4⟩ := h3 hg
   exact ⟨a1, a2, a3, fun hD => ⟨⟨(a4 hD).1, hlv⟩, (a4 hD).2.1, (a4 hD).2.2⟩⟩

theorem cut_trans {L : Nat} {a b c : Ctx} (h : Kept (cut L a) b) (k : Kept (cut L b) c) : Kept (cut L a) c := (cut_kept_cut h).trans k

theorem cut_inv {L n : Nat} {c : Ctx} (h : Inv n c) : Inv L (cut L c) := by
 have hk : ∀ (t : T) (v : Value), lvle L t = true → Rep c t v → Rep (cut L c) t v := fun t v ht hv => by
  have hm : Move c (cut L c) (fun l => if l.1 ≤ L then some l else none) (fun l => decide (L < l.1)) := by
   refine ⟨rfl, ?_, ?_, ?_, ?_, fun l hz hS => ?_⟩
   ·intro l m hf hz; simp at hf hz; omega
   ·intro l m hf hz; simp at hf hz; omega
   ·intro l m hf hz; simp at hf hz; omega
   ·intro l m hf hz; simp at hf hz; omega
   ·simp at hz
    refine ⟨by simp [hz], by simp [cut, trunc, hz], fun hD => ⟨⟨hD, hz⟩, rfl⟩⟩
  have := rename_rep hm t (.inl fun x hx => hx) hv
  rwa [rename_id (k := L) (fun l hl => by simp; omega) t ht] at this
 have hkL : ∀ (ts : List T) (vs : List Value), lvleL L ts = true → RepL c ts vs → RepL (cut L c) ts vs := by
  intro ts
  induction ts with
  | nil => intro vs _ hv; cases hv; exact .nil
  | cons x xs ih =>
   intro vs hl hv
   simp only [lvleL, Bool.and_eq_true] at hl
   cases hv with
   | cons _ v _ vs hx hr => exact .cons _ _ _ _ (hk x v hl.1 hx) (ih vs hl.2 hr)
 refine ⟨⟨fun l bt cs hD hS => ?_, fun l ro g sz e xs hD hS => ?_, fun l hD hm => h.rel.nsh l hD.1 (cut_mut hm), fun l l' hD hD' hm hm' he => h.rel.inj l l' hD.1 hD'.1 (cut_mut hm) (cut_mut hm') he, h.rel.lt, fun l hD => ?_⟩,
  fun l hD => hD.2, fun l hS => ?_⟩
 ·obtain ⟨h1, vs, h3, h4⟩ := h.rel.box l bt cs hD.1 (trunc_some.1 hS).2
  exact ⟨h1, vs, h3, hkL _ _ (lvleL_iff.2 fun t ht => by have := lvleL_iff.1 h1 t ht; exact lvle_mono hD.2 this) h4⟩
 ·obtain ⟨cur, fz, vs, h1, h2, h3, h4, h5⟩ := h.rel.arr l ro g sz e xs hD.1 (trunc_some.1 hS).2
  exact ⟨cur, fz, vs, h1, h2, h3, repE_kept (c := c) (c' := cut L c) (fun b hb => ⟨hb, rfl⟩) h4, h5⟩
 ·have := h.rel.dom l hD.1
  simp only [cut, trunc, hD.2, if_true]; exact this
 ·simp only [cut, trunc] at hS
  split at hS
  ·rename_i hl; exact ⟨h.full l hS, hl⟩
  ·exact absurd rfl hS


theorem mem_dedup {l : Loc} : ∀ {ls : List Loc}, l ∈ dedup ls ↔ l ∈ ls
 | [] => by simp [dedup]
 | x :: xs => by
  simp only [dedup, List.mem_cons, List.mem_filter, mem_dedup (ls := xs), bne_iff_ne]
  constructor
  ·rintro (h | ⟨h, _⟩)
   ·exact .inl h
   ·exact .inr h
  ·rintro (h | h)
   ·exact .inl h
   ·by_cases e : l = x
    ·exact .inl e
    ·exact .inr ⟨h, e⟩

theorem nodup_dedup : ∀ (ls : List Loc), (dedup ls).Nodup
 | [] => by simp [dedup]
 | x :: xs => by
  simp only [dedup, List.nodup_cons, List.mem_filter, bne_iff_ne]
  exact ⟨by simp, (nodup_dedup xs).filter _⟩

mutual
theorem locsOf_lev {n : Nat} {l : Loc} : ∀ (t : T), l ∈ locsOf n t → l.1 = n
 | .undef, h => by simp [locsOf] at h
 | .sc _, h => by simp [locsOf] at h
 | .lst .., h => by simp [locsOf] at h
 | .lptr .., h => by simp [locsOf] at h
 | .own m g off len, h => by
  simp only [locsOf] at h
  split at h
  ·rename_i e; simp at h; rw [h]; exact e
  ·simp at h
 | .ptr m off, h => by
  simp only [locsOf] at h
  split at h
  ·rename_i e; simp at h; rw [h]; exact e
  ·simp at h
 | .aptr m g i off, h => by
  simp only [locsOf] at h
  split at h
  ·rename_i e; simp at h; rw [h]; exact e
  ·simp at h
 | .clo g cs, h => locsOfL_lev cs (by simpa [locsOf] using h)
 | .agg cs, h => locsOfL_lev cs (by simpa [locsOf] using h)
 | .tup cs, h => locsOfL_lev cs (by simpa [locsOf] using h)
theorem locsOfL_lev {n : Nat} {l : Loc} : ∀ (ts : List T), l ∈ locsOfL n ts → l.1 = n
 | [], h => by simp [locsOfL] at h
 | x :: xs, h => by
  simp only [locsOfL, List.mem_append] at h
  rcases h with h | h
  ·exact locsOf_lev x h
  ·exact locsOfL_lev xs h
end

theorem posOf_spec {ls : List Loc} {l : Loc} {j : Nat} (h : posOf ls l = some j) : ls[j]? = some l := by
 unfold posOf at h
 rw [List.findIdx?_eq_some_iff_getElem] at h
 obtain ⟨hj, h1, _⟩ := h
 simp only [beq_iff_eq] at h1
 rw [List.getElem?_eq_getElem hj, h1]

theorem posOf_mem {ls : List Loc} {l : Loc} (h : l ∈ ls) : ∃ j, posOf ls l = some j := by
 cases hp : posOf ls l with
 | some j => exact ⟨j, rfl⟩
 | none =>
  unfold posOf at hp
  rw [List.findIdx?_eq_none_iff] at hp
  simpa using hp l h

theorem posOf_nodup {ls : List Loc} (hn : ls.Nodup) {j : Nat} {q : Loc} (hj : ls[j]? = some q) : posOf ls q = some j := by
 obtain ⟨i, hi⟩ := posOf_mem (List.mem_of_getElem? hj)
 have h1 := posOf_spec hi
 obtain ⟨h2, h3⟩ := List.getElem?_eq_some_iff.1 h1
 obtain ⟨h4, h5⟩ := List.getElem?_eq_some_iff.1 hj
 have := (List.getElem?_inj h2 hn).1 (h1.trans hj.symm)
 rw [hi, this]

theorem srcOf_pack {n : Nat} {ls : List Loc} {m k : Nat} {l l' : Loc} (hl : l.1 = n) (h : packF n ls m k l = some l') : srcOf ls m k l' = some l := by
 unfold packF at h
 simp only [hl, if_true, Option.map_eq_some_iff] at h
 obtain ⟨j, hj, rfl⟩ := h
 simp [srcOf, posOf_spec hj]

theorem pack_srcOf {n : Nat} {ls : List Loc} {m k : Nat} {l q : Loc} (hn : ls.Nodup) (hlv : ∀ q ∈ ls, q.1 = n) (h : srcOf ls m k l = some q) : packF n ls m k q = some l ∧ q ∈ ls ∧ l.1 = m := by
 unfold srcOf at h
 split at h
 ·rename_i hc
  have hq := List.mem_of_getElem? h
  refine ⟨?_, hq, hc.1⟩
  unfold packF
  simp only [hlv q hq, if_true, posOf_nodup hn h, Option.map_some, Option.some.injEq]
  ext
  ·exact hc.1.symm
  ·show k + (l.2 - k) = l.2; omega
 ·cases h

def addC (cB cP : Ctx) (n : Nat) (ls : List Loc) (m k : Nat) : Ctx :=
 { S := addS n ls m k cP.S cB.S, D := fun l => cB.D l ∨ srcOf ls m k l ≠ none, β := fun l => match srcOf ls m k l with
   | some q => cP.β q
   | none => cB.β l, Sh := cB.Sh, w := cB.w }

structure AddOk (cB cP : Ctx) (n : Nat) (ls : List Loc) (m k : Nat) : Prop where
 hP : Inv n cP
 hB : Inv m cB
 w : cB.w = cP.w
 n0 : 0 < n
 nm : n ≤ m + 1
 lv : ∀ q ∈ ls, q.1 = n
 nd : ls.Nodup
 ok : packOk n ls cP.S = true
 free : ∀ l, srcOf ls m k l ≠ none → cB.S l = none
 low : ∀ l, l.1 < n → cP.S l ≠ none → cB.S l = cP.S l ∧ (cP.D l → cB.D l ∧ cB.β l = cP.β l)
 sh : ShGo cP cB (arrLst cP.S ls)
 blk : ∀ q ∈ ls, cP.D q → Mut cP q → ¬ cB.Sh (cP.β q) ∧ ∀ l, cB.D l → Mut cB l → cB.β l ≠ cP.β q

theorem addC_old {cB cP : Ctx} {n : Nat} {ls : List Loc} {m k : Nat} (h : AddOk cB cP n ls m k) {l : Loc} (hS : cB.S l ≠ none) :
  srcOf ls m k l = none ∧ (addC cB cP n ls m k).S l = cB.S l ∧ (addC cB cP n ls m k).β l = cB.β l := by
 have : srcOf ls m k l = none := by
  cases hs : srcOf ls m k l with
  | none => rfl
  | some q => exact absurd (h.free l (by simp [hs])) hS
 exact ⟨this, by simp [addC, addS, this], by simp [addC, this]⟩

theorem addC_kept {cB cP : Ctx} {n : Nat} {ls : List Loc} {m k : Nat} (h : AddOk cB cP n ls m k) : Kept cB (addC cB cP n ls m k) := by
 refine ⟨fun b hb => ⟨hb, rfl⟩, fun l hl => ?_, fun l ro g sz e xs hS => .inr ?_, fun l hl => ?_⟩
 ·obtain ⟨hD, bt, cs, hS⟩ := hl
  obtain ⟨h1, h2, h3⟩ := addC_old h (l := l) (by rw [hS]; simp)
  exact ⟨⟨.inl hD, bt, cs, h2.trans hS⟩, h3⟩
 ·obtain ⟨h1, h2, h3⟩ := addC_old h (l := l) (by rw [hS]; simp)
  exact ⟨ro, g, sz, e, xs, h2.trans hS, Nat.le_refl _, fun _ => ⟨rfl, rfl, rfl, fun hD => ⟨.inl hD, h3, fun cur fz hw => ⟨cur, fz, hw, rfl⟩⟩⟩⟩
 ·obtain ⟨h1, h2, h3⟩ := addC_old h (l := l) (by rw [hl]; simp)
  exact h2.trans hl

theorem packOk_at {n : Nat} {ls : List Loc} {S : Store} (h : packOk n ls S = true) {q : Loc} (hq : q ∈ ls) :
  (∃ bt cs, S q = some (.box bt cs) ∧ lvleL (n - 1) cs = true) ∨ ∃ ro g sz e xs, S q = some (.arr ro g sz e xs) := by
 unfold packOk at h
 have := List.all_eq_true.1 h q hq
 split at this
 ·rename_i bt cs hS; exact .inl ⟨bt, cs, hS, this⟩
 ·rename_i ro g sz e xs hS; exact .inr ⟨ro, g, sz, e, xs, hS⟩
 ·cases this

theorem addC_move {cB cP : Ctx} {n : Nat} {ls : List Loc} {m k : Nat} (h : AddOk cB cP n ls m k) : Move cP (addC cB cP n ls m k) (packF n ls m k) (fun p => p.1 == n) := by
 refine ⟨h.w, ?_, ?_, ?_, ?_, fun l hz hS => ?_⟩
 ·intro l l' hf hz ro g sz e xs hS
  have := srcOf_pack (by simpa using hz) hf
  simp [addC, addS, this, hS, renObj]
 ·intro l l' hf hz bt cs hS
  have := srcOf_pack (by simpa using hz) hf
  exact ⟨bt, renameL cP.S (packF n ls m k) (fun p => p.1 == n) cs, by simp [addC, addS, this, hS, renObj]⟩
 ·intro l l' hf hz hS
  have := srcOf_pack (by simpa using hz) hf
  simp [addC, addS, this, hS, renObj]
 ·intro l l' hf hz hD
  have := srcOf_pack (by simpa using hz) hf
  simp [addC, this]
 ·have hl : l.1 ≠ n := by simpa using hz
  have hlt : l.1 < n := by have := h.hP.lev l (h.hP.full l hS); omega
  obtain ⟨h1, h2⟩ := h.low l hlt hS
  obtain ⟨_, h3, h4⟩ := addC_old h (l := l) (by rw [h1]; exact hS)
  exact ⟨by simp [packF, hl], h3.trans h1, fun hD => ⟨.inl (h2 hD).1, h4.trans (h2 hD).2⟩⟩

theorem addC_grp {cB cP : Ctx} {n : Nat} {ls : List Loc} {m k : Nat} (h : AddOk cB cP n ls m k) {l q : Loc} (hs : srcOf ls m k l = some q) :
  q ∈ ls ∧ l.1 = m ∧ cP.D q ∧ (addC cB cP n ls m k).β l = cP.β q ∧
   ((∃ bt cs, cP.S q = some (.box bt cs) ∧ lvleL (n - 1) cs = true ∧ (addC cB cP n ls m k).S l = some (.box bt cs)) ∨
    ∃ ro g sz e xs, cP.S q = some (.arr ro g sz e xs) ∧ (addC cB cP n ls m k).S l = some (.arr ro 0 sz e xs)) := by
 obtain ⟨h1, h2, h3⟩ := pack_srcOf h.nd h.lv hs
 have hok := packOk_at h.ok h2
 refine ⟨h2, h3, h.hP.full q ?_, by simp [addC, hs], ?_⟩
 ·rcases hok with ⟨bt, cs, hS, _⟩ | ⟨ro, g, sz, e, xs, hS⟩ <;> simp [hS]
 ·rcases hok with ⟨bt, cs, hS, hl⟩ | ⟨ro, g, sz, e, xs, hS⟩
  ·refine .inl ⟨bt, cs, hS, hl, ?_⟩
   have hn := h.n0
   simp only [addC, addS, hs, hS, Option.map_some, renObj]
   rw [renameL_id (k := n - 1) (fun l hl => by
    have : l.1 ≠ n := by omega
    simp [packF, this]) cs hl]
  ·exact .inr ⟨ro, g, sz, e, xs, hS, by simp [addC, addS, hs, hS, renObj]⟩

theorem addC_mut {cB cP : Ctx} {n : Nat} {ls : List Loc} {m k : Nat} (h : AddOk cB cP n ls m k) {l q : Loc} (hs : srcOf ls m k l = some q) (hm : Mut (addC cB cP n ls m k) l) : Mut cP q := by
 obtain ⟨_, _, _, _, h5⟩ := addC_grp h hs
 rcases h5 with ⟨bt, cs, h6, h7, h8⟩ | ⟨ro, g, sz, e, xs, h6, h7⟩
 ·simp [Mut, h6]
 ·simpa [Mut, h6, h7] using hm

theorem addC_mut_old {cB cP : Ctx} {n : Nat} {ls : List Loc} {m k : Nat} {l : Loc} (hs : srcOf ls m k l = none) (hm : Mut (addC cB cP n ls m k) l) : Mut cB l := by
 simpa [Mut, addC, addS, hs] using hm

theorem arrLst_at {S : Store} {ls : List Loc} (h : arrLst S ls = false) {q : Loc} (hq : q ∈ ls) :
  (∀ bt cs, S q = some (.box bt cs) → hasLstL cs = false) ∧ ∀ ro g sz e xs, S q = some (.arr ro g sz e xs) → ro = false ∧ hasLstL xs = false := by
 unfold arrLst at h
 have := List.any_eq_false.1 h q hq
 refine ⟨fun bt cs hS => ?_, fun ro g sz e xs hS => ?_⟩
 ·simpa [hS] using this
 ·simpa [hS] using this

theorem addC_inv {cB cP : Ctx} {n : Nat} {ls : List Loc} {m k : Nat} (h : AddOk cB cP n ls m k) : Inv m (addC cB cP n ls m k) := by
 have hk := addC_kept h
 have hmv := addC_move h
 have hold : ∀ l, (addC cB cP n ls m k).D l → srcOf ls m k l = none → cB.D l := fun l hD hs => hD.resolve_right (by simp [hs])
 refine ⟨⟨fun l bt cs hD hS => ?_, fun l ro g sz e xs hD hS => ?_, fun l hD hm => ?_, fun l l' hD hD' hm hm' he => ?_, h.hB.rel.lt, fun l hD => ?_⟩, fun l hD => ?_, fun l hS => ?_⟩
 ·cases hs : srcOf ls m k l with
  | none =>
   have hD := hold l hD hs
   simp only [addC, addS, hs] at hS
   obtain ⟨h1, vs, h3, h4⟩ := h.hB.rel.box l bt cs hD hS
   exact ⟨h1, vs, by simpa [addC, hs] using h3, h4.kept hk⟩
  | some q =>
   obtain ⟨h1, h2, h3, h4, h5⟩ := addC_grp h hs
   rcases h5 with ⟨dt, ds, h6, h7, h8⟩ | ⟨ro, g, sz, e, xs, h6, h7⟩
   ·rw [h8] at hS
    cases hS
    obtain ⟨a1, vs, a3, a4⟩ := h.hP.rel.box q bt cs h3 h6
    have hn := h.n0
    have hnm := h.nm
    have hr := renameL_rep hmv cs (h.sh.imp id fun ha => (arrLst_at ha h1).1 bt cs h6) a4
    rw [renameL_id (k := n - 1) (fun l hl => by
     have : l.1 ≠ n := by omega
     simp [packF, this]) cs h7] at hr
    refine ⟨lvleL_mono (by omega) h7, vs, ?_, hr⟩
    rw [h4]
    show cB.w.heap[_]? = _
    rw [h.w]; exact a3
   ·rw [h7] at hS; cases hS
 ·cases hs : srcOf ls m k l with
  | none =>
   have hD := hold l hD hs
   simp only [addC, addS, hs] at hS
   obtain ⟨cur, fz, vs, h1, h2, h3, h4, h5⟩ := h.hB.rel.arr l ro g sz e xs hD hS
   exact ⟨cur, fz, vs, by simpa [addC, hs] using h1, h2, fun hr => by simpa [addC, hs] using h3 hr, h4.kept hk, h5⟩
  | some q =>
   obtain ⟨h1, h2, h3, h4, h5⟩ := addC_grp h hs
   rcases h5 with ⟨dt, ds, h6, h7, h8⟩ | ⟨ro', g', sz', e', xs', h6, h7⟩
   ·rw [h8] at hS; cases hS
   ·rw [h7] at hS
    simp only [Option.some.injEq, Obj.arr.injEq] at hS
    obtain ⟨rfl, rfl, rfl, rfl, rfl⟩ := hS
    obtain ⟨cur, fz, vs, a1, a2, a3, a4, a5⟩ := h.hP.rel.arr q _ _ _ _ _ h3 h6
    refine ⟨cur, fz, vs, ?_, a2, fun hr => ?_, repE_go (c' := addC cB cP n ls m k) h.w (h.sh.imp id fun ha => ((arrLst_at ha h1).2 _ _ _ _ _ h6).2) a4, a5⟩
    ·rw [h4]
     show cB.w.heap[_]? = _
     rw [h.w]; exact a1
    ·rw [h4]
     rcases h.sh with hgo | ha
     ·exact hgo _ (a3 hr)
     ·have := ((arrLst_at ha h1).2 _ _ _ _ _ h6).1
      rw [this] at hr; cases hr
 ·cases hs : srcOf ls m k l with
  | none =>
   have hD := hold l hD hs
   have := h.hB.rel.nsh l hD (addC_mut_old hs hm)
   simpa [addC, hs] using this
  | some q =>
   obtain ⟨h1, h2, h3, h4, h5⟩ := addC_grp h hs
   rw [h4]
   exact (h.blk q h1 h3 (addC_mut h hs hm)).1
 ·cases hs : srcOf ls m k l with
  | none =>
   have hD := hold l hD hs
   have hm0 := addC_mut_old hs hm
   have hb : (addC cB cP n ls m k).β l = cB.β l := by simp [addC, hs]
   cases hs' : srcOf ls m k l' with
   | none =>
    have hD' := hold l' hD' hs'
    have hb' : (addC cB cP n ls m k).β l' = cB.β l' := by simp [addC, hs']
    exact h.hB.rel.inj l l' hD hD' hm0 (addC_mut_old hs' hm') (by rw [← hb, ← hb']; exact he)
   | some q' =>
    obtain ⟨h1, h2, h3, h4, h5⟩ := addC_grp h hs'
    exact absurd (by rw [← hb, ← h4]; exact he) ((h.blk q' h1 h3 (addC_mut h hs' hm')).2 l hD hm0)
  | some q =>
   obtain ⟨h1, h2, h3, h4, h5⟩ := addC_grp h hs
   cases hs' : srcOf ls m k l' with
   | none =>
    have hD' := hold l' hD' hs'
    have hb' : (addC cB cP n ls m k).β l' = cB.β l' := by simp [addC, hs']
    exact absurd (by rw [← hb', ← h4]; exact he.symm) ((h.blk q h1 h3 (addC_mut h hs hm)).2 l' hD' (addC_mut_old hs' hm'))
   | some q' =>
    obtain ⟨a1, a2, a3, a4, a5⟩ := addC_grp h hs'
    have := h.hP.rel.inj q q' h3 a3 (addC_mut h hs hm) (addC_mut h hs' hm') (by rw [← h4, ← a4]; exact he)
    subst this
    have e1 := (pack_srcOf h.nd h.lv hs).1
    have e2 := (pack_srcOf h.nd h.lv hs').1
    rw [e1] at e2
    exact Option.some.inj e2
 ·cases hs : srcOf ls m k l with
  | none => simpa [addC, addS, hs] using h.hB.rel.dom l (hold l hD hs)
  | some q =>
   obtain ⟨_, _, _, _, h5⟩ := addC_grp h hs
   rcases h5 with ⟨bt, cs, h6, h7, h8⟩ | ⟨ro, g, sz, e, xs, h6, h7⟩
   ·rw [h8]; simp
   ·rw [h7]; simp
 ·cases hs : srcOf ls m k l with
  | none => exact h.hB.lev l (hold l hD hs)
  | some q => exact Nat.le_of_eq (addC_grp h hs).2.1
 ·cases hs : srcOf ls m k l with
  | none => exact .inl (h.hB.full l (by simpa [addC, addS, hs] using hS))
  | some q => exact .inr (by simp [hs])


theorem addC_fr {a cB cP : Ctx} {n : Nat} {ls : List Loc} {m k : Nat} (h : AddOk cB cP n ls m k) (hB : Fr a cB) (hq : ∀ q ∈ ls, cP.D q → Mut cP q → a.w.heap.size ≤ cP.β q) :
  Fr a (addC cB cP n ls m k) := by
 refine ⟨hB.os, hB.tape, hB.output, hB.size, hB.blk, fun l hD hm => ?_, hB.shn⟩
 cases hs : srcOf ls m k l with
 | none =>
  have hD := hD.resolve_right (by simp [hs])
  have hb : (addC cB cP n ls m k).β l = cB.β l := by simp [addC, hs]
  rw [hb]
  exact hB.own l hD (addC_mut_old hs hm)
 | some q =>
  obtain ⟨h1, h2, h3, h4, h5⟩ := addC_grp h hs
  rw [h4]
  exact .inr (hq q h1 h3 (addC_mut h hs hm))

theorem cut_fr {L : Nat} {a c : Ctx} (h : Fr a c) : Fr a (cut L c) :=
 ⟨h.os, h.tape, h.output, h.size, h.blk, fun l hD hm => h.own l hD.1 (cut_mut hm), h.shn⟩

theorem pack_addOk {L : Nat} {c : Ctx} (hi : Inv (L + 1) c) {r : T} (hok : packOk (L + 1) (dedup (locsOf (L + 1) r)) c.S = true) {m k : Nat} (hm : m = L + 1 ∨ m = L)
  (hf : ∀ l, srcOf (dedup (locsOf (L + 1) r)) m k l ≠ none → trunc L c.S l = none) : AddOk (cut L c) c (L + 1) (dedup (locsOf (L + 1) r)) m k := by
 refine ⟨hi, ?_, rfl, by omega, by omega, fun q hq => locsOf_lev r (mem_dedup.1 hq), nodup_dedup _, hok, hf, fun l hl hS => ?_, .inl fun b hb => hb, fun q hq hD hm => ?_⟩
 ·have := cut_inv (L := L) hi
  exact ⟨this.rel, fun l hD => by have := this.lev l hD; omega, this.full⟩
 ·have hlL : l.1 ≤ L := by omega
  refine ⟨by simp [cut, trunc, hlL], fun hD => ⟨⟨hD, hlL⟩, rfl⟩⟩
 ·refine ⟨hi.rel.nsh q hD hm, fun l hD' hm' he => ?_⟩
  have := hi.rel.inj l q hD'.1 hD (cut_mut hm') hm he
  have h1 := locsOf_lev r (mem_dedup.1 hq)
  have h2 := hD'.2
  rw [this] at h2
  omega

/-- What a call leaves. -/
structure Left (L : Nat) (c : Ctx) (r : T) (S' : Store) (v : Value) (c' : Ctx) : Prop where
 inv : Inv (L + 1) c'
 S : c'.S = S'
 rep : Rep c' r v
 kept : Kept c c'
 fr : Fr c c'
 new : ∀ l, c'.D l → c.D l ∨ 1 ≤ l.1

theorem cut_full {L : Nat} {c0 : Ctx} (h0 : ∀ l, c0.D l → l.1 ≤ L) (hS0 : ∀ l, c0.S l ≠ none → c0.D l) : Kept c0 (cut L c0) := by
  refine ⟨fun b hb => ⟨hb, rfl⟩, fun l hl => ⟨⟨⟨hl.1, h0 l hl.1⟩, hl.2.choose, hl.2.choose_spec.choose, trunc_some.2 ⟨h0 l hl.1, hl.2.choose_spec.choose_spec⟩⟩, rfl⟩, fun l ro g sz e xs hS => .inr ?_, fun l hl => trunc_some.2 ⟨h0 l (hS0 l (by rw [hl]; simp)), hl⟩⟩
  have hD := hS0 l (by rw [hS]; simp)
  exact ⟨ro, g, sz, e, xs, trunc_some.2 ⟨h0 l hD, hS⟩, Nat.le_refl _, fun _ => ⟨rfl, rfl, rfl, fun _ => ⟨⟨hD, h0 l hD⟩, rfl, fun cur fz hw => ⟨cur, fz, hw, rfl⟩⟩⟩⟩

theorem pack_sound {L : Nat} {c0 c : Ctx} (hi : Inv (L + 1) c) (h0 : ∀ l, c0.D l → l.1 ≤ L) (hS0 : ∀ l, c0.S l ≠ none → c0.D l) (hk : Kept (cut L c0) c) (hfr : Fr c0 c) (hnew : ∀ l, c.D l → c0.D l ∨ 1 ≤ l.1)
  {r r' : T} {S' : Store} {v : Value} (hr : Rep c r v) (h : pack (L + 1) r c.S = some (r', S')) : ∃ c', c'.w = c.w ∧ Left L c0 r' S' v c' := by
 unfold pack at h
 split at h
 ·rename_i hc
  simp only [Bool.and_eq_true] at hc
  simp only [Option.some.injEq, Prod.mk.injEq] at h
  obtain ⟨rfl, rfl⟩ := h
  have hok : AddOk (cut L c) c (L + 1) (dedup (locsOf (L + 1) r)) (L + 1) 0 := pack_addOk hi hc.1 (.inl rfl) fun l hl => by
   cases hs : srcOf (dedup (locsOf (L + 1) r)) (L + 1) 0 l with
   | none => exact absurd hs hl
   | some q =>
    unfold srcOf at hs
    split at hs
    ·rename_i hlv
     have : ¬ l.1 ≤ L := by omega
     simp [trunc, this]
    ·cases hs
  refine ⟨addC (cut L c) c (L + 1) (dedup (locsOf (L + 1) r)) (L + 1) 0, rfl, addC_inv hok, rfl, rename_rep (addC_move hok) r (.inl fun b hb => hb) hr,
   (cut_full h0 hS0).trans ((cut_kept_cut hk).trans (addC_kept hok)), addC_fr hok (cut_fr hfr) fun q hq hD hm => ?_, fun l hD => ?_⟩
  ·rcases hfr.own q hD hm with ⟨h1, _, _⟩ | h1
   ·have h2 := h0 q h1
    have h3 := locsOf_lev r (mem_dedup.1 hq)
    omega
   ·exact h1
  ·rcases hD with hD | hD
   ·exact hnew l hD.1
   ·cases hs : srcOf (dedup (locsOf (L + 1) r)) (L + 1) 0 l with
    | none => exact absurd hs hD
    | some q => exact .inr (by have := (addC_grp hok hs).2.1; omega)
 ·cases h

/-! ### the head of a round -/
def maskC (n : Nat) (kl : List Nat) (c : Ctx) : Ctx := { c with S := maskS n kl c.S, D := fun l => c.D l ∧ (l.1 = n → kl.contains l.2 = true) }

theorem maskS_in {n : Nat} {kl : List Nat} {S : Store} {l : Loc} (h : l.1 = n) (hk : kl.contains l.2 = true) : maskS n kl S l = (S l).map (renObj S (maskF n kl) (fun m => m.1 == n)) := by
 simp only [maskS, h, hk, if_true]
theorem maskS_low {n : Nat} {kl : List Nat} {S : Store} {l : Loc} (h : l.1 ≠ n) : maskS n kl S l = S l := by
 simp only [maskS, h, if_false]
theorem maskS_out {n : Nat} {kl : List Nat} {S : Store} {l : Loc} (h : l.1 = n) (hk : kl.contains l.2 = false) : maskS n kl S l = none := by
 simp only [maskS, h, hk, if_true, Bool.false_eq_true, if_false]

theorem mask_move (n : Nat) (kl : List Nat) (c : Ctx) : Move c (maskC n kl c) (maskF n kl) (fun m => m.1 == n) := by
 have key : ∀ l m : Loc, maskF n kl l = some m → l.1 = n → m = l ∧ kl.contains l.2 = true := by
  intro l m hf hl
  simp only [maskF, hl, if_true] at hf
  split at hf
  ·rename_i hc; cases hf; exact ⟨rfl, hc⟩
  ·cases hf
 refine ⟨rfl, ?_, ?_, ?_, ?_, fun l hz hS => ?_⟩
 ·intro l m hf hz ro g sz e xs hS
  have hl : l.1 = n := by simpa using hz
  obtain ⟨rfl, hc⟩ := key l m hf hl
  simp only [maskC]
  rw [maskS_in hl hc, hS]; rfl
 ·intro l m hf hz bt cs hS
  have hl : l.1 = n := by simpa using hz
  obtain ⟨rfl, hc⟩ := key l m hf hl
  refine ⟨bt, renameL c.S (maskF n kl) (fun m => m.1 == n) cs, ?_⟩
  simp only [maskC]
  rw [maskS_in hl hc, hS]; rfl
 ·intro l m hf hz hS
  have hl : l.1 = n := by simpa using hz
  obtain ⟨rfl, hc⟩ := key l m hf hl
  simp only [maskC]
  rw [maskS_in hl hc, hS]; rfl
 ·intro l m hf hz hD
  have hl : l.1 = n := by simpa using hz
  obtain ⟨rfl, hc⟩ := key l m hf hl
  exact ⟨⟨hD, fun _ => hc⟩, rfl⟩
 ·have hl : l.1 ≠ n := by simpa using hz
  exact ⟨by simp [maskF, hl], maskS_low hl, fun hD => ⟨⟨hD, fun h => absurd h hl⟩, rfl⟩⟩

theorem mask_mut {n : Nat} {kl : List Nat} {c : Ctx} {l : Loc} (h : Mut (maskC n kl c) l) : Mut c l := by
 unfold Mut maskC at *
 simp only at h
 by_cases hl : l.1 = n
 ·cases hk : kl.contains l.2 with
  | false => rw [maskS_out hl hk] at h; exact h.elim
  | true =>
   rw [maskS_in hl hk] at h
   cases hS : c.S l with
   | none => simp [hS] at h
   | some o => cases o <;> simpa [hS, renObj] using h
 ·rw [maskS_low hl] at h; exact h

theorem mask_fr (n : Nat) (kl : List Nat) (c : Ctx) : Fr c (maskC n kl c) :=
 ⟨rfl, rfl, rfl, Nat.le_refl _, fun _ _ _ => rfl, fun l hD hm => .inl ⟨hD.1, mask_mut hm, rfl⟩, fun b hb => .inl hb⟩

theorem mask_kept (L : Nat) (kl : List Nat) (c : Ctx) : Kept (cut L c) (maskC (L + 1) kl c) := by
 have hne : ∀ l : Loc, l.1 ≤ L → l.1 ≠ L + 1 := fun l h => by omega
 refine ⟨fun b hb => ⟨hb, rfl⟩, fun l hl => ?_, fun l ro g sz e xs hS => .inr ?_, fun l hl => ?_⟩
 ·obtain ⟨hD, bt, cs, hS⟩ := hl
  exact ⟨⟨⟨hD.1, fun h => absurd h (hne l hD.2)⟩, bt, cs, (maskS_low (hne l hD.2)).trans (trunc_some.1 hS).2⟩, rfl⟩
 ·obtain ⟨hl, hS⟩ := trunc_some.1 hS
  exact ⟨ro, g, sz, e, xs, (maskS_low (hne l hl)).trans hS, Nat.le_refl _, fun _ => ⟨rfl, rfl, rfl, fun hD => ⟨⟨hD.1, fun h => absurd h (hne l hl)⟩, rfl, fun cur fz hw => ⟨cur, fz, hw, rfl⟩⟩⟩⟩
 ·obtain ⟨hl, hS⟩ := trunc_some.1 hl
  exact (maskS_low (hne l hl)).trans hS

theorem mask_inv {n : Nat} {kl : List Nat} {c : Ctx} (h : Inv n c) : Inv n (maskC n kl c) := by
 have hmv := mask_move n kl c
 have hin : ∀ l, (maskC n kl c).D l → l.1 = n → kl.contains l.2 = true := fun l hD => hD.2
 refine ⟨⟨fun l bt cs hD hS => ?_, fun l ro g sz e xs hD hS => ?_, fun l hD hm => h.rel.nsh l hD.1 (mask_mut hm), fun l l' hD hD' hm hm' he => h.rel.inj l l' hD.1 hD'.1 (mask_mut hm) (mask_mut hm') he, h.rel.lt, fun l hD => ?_⟩,
  fun l hD => h.lev l hD.1, fun l hS => ?_⟩
 ·simp only [maskC] at hS
  by_cases hl : l.1 = n
  ·rw [maskS_in hl (hin l hD hl)] at hS
   cases hS0 : c.S l with
   | none => simp [hS0] at hS
   | some o =>
    cases o with
    | gone => simp [hS0, renObj] at hS
    | arr => simp [hS0, renObj] at hS
    | box dt ds =>
     simp only [hS0, Option.map_some, renObj, Option.some.injEq, Obj.box.injEq] at hS
     obtain ⟨hS9, hS⟩ := hS
     subst hS9
     subst hS
     obtain ⟨h1, vs, h3, h4⟩ := h.rel.box l _ ds hD.1 hS0
     refine ⟨renameL_lvle (fun a b hf ha => ?_) ds h1, vs, h3, renameL_rep hmv ds (.inl fun b hb => hb) h4⟩
     simp only [maskF] at hf
     split at hf
     ·split at hf
      ·cases hf; exact ha
      ·cases hf
     ·cases hf; exact ha
  ·rw [maskS_low hl] at hS
   obtain ⟨h1, vs, h3, h4⟩ := h.rel.box l bt cs hD.1 hS
   have hlt : l.1 < n := by have := h.lev l hD.1; omega
   have hr := renameL_rep hmv cs (.inl fun b hb => hb) h4
   rw [renameL_id (k := l.1) (fun a ha => by
    have : a.1 ≠ n := by omega
    simp [maskF, this]) cs h1] at hr
   exact ⟨h1, vs, h3, hr⟩
 ·simp only [maskC] at hS
  have : ∃ g', c.S l = some (.arr ro g' sz e xs) := by
   by_cases hl : l.1 = n
   ·rw [maskS_in hl (hin l hD hl)] at hS
    cases hS0 : c.S l with
    | none => simp [hS0] at hS
    | some o =>
     cases o with
     | gone => simp [hS0, renObj] at hS
     | box => simp [hS0, renObj] at hS
     | arr ro' g' sz' e' xs' =>
      simp only [hS0, Option.map_some, renObj, Option.some.injEq, Obj.arr.injEq] at hS
      obtain ⟨rfl, rfl, rfl, rfl, rfl⟩ := hS
      exact ⟨g', rfl⟩
   ·rw [maskS_low hl] at hS
    exact ⟨g, hS⟩
  obtain ⟨g', hS'⟩ := this
  obtain ⟨cur, fz, vs, h1, h2, h3, h4, h5⟩ := h.rel.arr l _ _ _ _ _ hD.1 hS'
  exact ⟨cur, fz, vs, h1, h2, h3, repE_kept (c := c) (c' := maskC n kl c) (fun b hb => ⟨hb, rfl⟩) h4, h5⟩
 ·have := h.rel.dom l hD.1
  simp only [maskC]
  by_cases hl : l.1 = n
  ·rw [maskS_in hl (hin l hD hl)]
   cases hS0 : c.S l with
   | none => exact absurd hS0 this
   | some o => simp
  ·rw [maskS_low hl]; exact this
 ·simp only [maskC] at hS
  by_cases hl : l.1 = n
  ·cases hk : kl.contains l.2 with
   | false => rw [maskS_out hl hk] at hS; exact absurd rfl hS
   | true =>
    rw [maskS_in hl hk] at hS
    exact ⟨h.full l fun h0 => hS (by rw [h0]; rfl), fun _ => hk⟩
  ·rw [maskS_low hl] at hS
   exact ⟨h.full l hS, fun h0 => absurd h0 hl⟩

end Go.TM
