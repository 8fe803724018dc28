/- Cuts, records, rows of given elements. -/
import Derived.Test.YtioldkniiilhnaaGreatDoorTmOps3
set_option linter.all false
namespace Go.TM
open Go
set_option linter.unusedVariables false
set_option linter.unusedSimpArgs false

theorem bndO_run {P : Program} {c : Ctx} {n : Nat} {s : Slots} {a : Act} (hs : SR c n s a) {dflt : Nat} {x : Operand} {i : Int} (h : bndO s dflt (some x) = some i) :
  ∃ k, a.eval x = .int k i := by
 unfold bndO at h
 simp only at h
 split at h
 ·rename_i k m hx
  simp only [Option.some.injEq] at h
  subst h
  exact ⟨k, (ev_rep hs hx).scv⟩
 ·cases h

theorem sliceBounds_run {P : Program} {c : Ctx} {nn : Nat} {s : Slots} {a : Act} (hs : SR c nn s a) {n cap : Nat} (hcap : n ≤ cap) {lo hi mx : Option Operand} {l h m : Int}
  (hl : bndO s 0 lo = some l) (hh : bndO s n hi = some h) (hm : bndO s n mx = some m) (hb : 0 ≤ l ∧ l ≤ h ∧ h ≤ m ∧ m ≤ n ∧ (mx.isSome → hi.isSome)) (w : World) :
  (Instr.sliceBounds true n cap (lo.map a.eval) (hi.map a.eval) (mx.map a.eval)).run P w = .ok (l.toNat, h.toNat, if mx.isSome then m.toNat else cap) w := by
 obtain ⟨h0, h1, h2, h3, h4⟩ := hb
 have sb : ∀ (k : IntKind) (i : Int) (y : Nat) (code : BoundsCode), 0 ≤ i → i ≤ y → (Instr.sliceBound (.int k i) y code).run P w = .ok i.toNat w := fun k i y code a b => by
  simp [Instr.sliceBound, Sem.run_bind, asIntOf, a, b]
 have hlo : (lo = none ∧ l = 0) ∨ ∃ x k, lo = some x ∧ a.eval x = .int k l := by
  cases lo with
  | none => simp only [bndO, Option.some.injEq] at hl; exact .inl ⟨rfl, hl.symm⟩
  | some x => obtain ⟨k, hk⟩ := bndO_run (P := P) hs hl; exact .inr ⟨x, k, rfl, hk⟩
 have fin : ∀ (y : Nat) (hy : l ≤ y) (mm : Nat) (code : BoundsCode), ((match lo.map a.eval with
   | some v => do let l ← Instr.sliceBound v y code; pure (l, y, mm)
   | none => do let l ← pure 0; pure (l, y, mm)) : Sem (Nat × Nat × Nat)).run P w = .ok (l.toNat, y, mm) w := by
  intro y hy mm code
  rcases hlo with ⟨rfl, rfl⟩ | ⟨x, k, rfl, hk⟩
  ·rfl
  ·simp only [Option.map_some, hk, Sem.run_bind, sb k l y code h0 hy, Result.andThen, Sem.run_pure]
 cases mx with
 | none =>
  simp only [bndO, Option.some.injEq] at hm
  subst hm
  cases hi with
  | none =>
   simp only [bndO, Option.some.injEq] at hh
   subst hh
   simp only [Instr.sliceBounds, Option.map_none, Sem.run_bind, Sem.run_pure, Result.andThen, Option.isSome_none, Bool.false_eq_true, if_false]
   exact fin n h1 cap _
  | some y =>
   obtain ⟨k, hk⟩ := bndO_run (P := P) hs hh
   simp only [Instr.sliceBounds, Option.map_none, Option.map_some, Sem.run_bind, Sem.run_pure, Result.andThen, Option.isSome_none, Bool.false_eq_true, if_false, if_true, hk]
   rw [sb k h cap _ (by omega) (by omega)]
   exact fin h.toNat (by omega) cap _
 | some z =>
  obtain ⟨k, hk⟩ := bndO_run (P := P) hs hm
  cases hi with
  | none => simp at h4
  | some y =>
   obtain ⟨k2, hk2⟩ := bndO_run (P := P) hs hh
   simp only [Instr.sliceBounds, Option.map_some, Sem.run_bind, Sem.run_pure, Result.andThen, Option.isSome_some, if_true, hk, hk2]
   rw [sb k m cap _ (by omega) (by omega)]
   simp only [Result.andThen]
   rw [sb k2 h m.toNat _ (by omega) (by omega)]
   exact fin h.toNat (by omega) m.toNat _

theorem sliceT_sound {P : Program} {c : Ctx} {nn : Nat} {s : Slots} {a : Act} (hs : SR c nn s a) {t : TypeId} {x r : T} {xv : Value} {lo hi mx : Option Operand}
  (h : sliceT P s c.S t x lo hi mx = some r) (hx : Rep c x xv) : ∃ v, (∀ w, (Instr.sliceAt t xv (lo.map a.eval) (hi.map a.eval) (mx.map a.eval)).run P w = .ok v w) ∧ Rep c r v := by
 unfold sliceT at h
 split at h
 ·rename_i e sz he
  obtain ⟨hu, hsz⟩ := elemT_slice he
  have hrun : ∀ (w : World) (A : Option Addr) (n cap : Nat) (l h m : Nat), (Instr.sliceBounds true n cap (lo.map a.eval) (hi.map a.eval) (mx.map a.eval)).run P w = .ok (l, h, m) w →
    (Instr.sliceAt t (.slice A n cap) (lo.map a.eval) (hi.map a.eval) (mx.map a.eval)).run P w = .ok (.slice (if m = l then A else A.map (·.add (l * sz))) (h - l) (m - l)) w := fun w A n cap l h m hb => by
   simp [Instr.sliceAt, Instr.slice, Sem.run_bind, run_underlying hu, hb, sizeOf_run hsz]
  split at h
  ·rename_i sz' xs
   split at h
   ·rename_i hss
    subst hss
    unfold cutT at h
    split at h
    ·rename_i l h' m hl hh hm
     split at h
     ·rename_i hb
      simp only [Option.some.injEq] at h
      subst h
      cases hx with
      | lst0 _ A cap =>
       have hb' := hb
       simp only [List.length_nil, Int.natCast_zero] at hb'
       obtain ⟨rfl, rfl⟩ : l = 0 ∧ h' = 0 := by omega
       have := fun w => sliceBounds_run (P := P) hs (n := 0) (cap := cap) (by omega) hl hh hm hb w
       refine ⟨_, fun w => hrun w A 0 cap _ _ _ (this w), ?_⟩
       simp only [Int.toNat_zero, List.take_zero, List.drop_zero, Nat.sub_zero]
       exact .lst0 _ _ _
      | lst _ _ b o cap vs hsh hE hc hcap =>
       have := fun w => sliceBounds_run (P := P) hs (n := xs.length) (cap := cap) hcap hl hh hm hb w
       refine ⟨_, fun w => hrun w _ _ cap _ _ _ (this w), ?_⟩
       have hlen : ((xs.take h'.toNat).drop l.toNat).length = h'.toNat - l.toNat := by simp; omega
       by_cases h0 : h'.toNat - l.toNat = 0
       ·rw [h0, List.eq_nil_of_length_eq_zero (hlen.trans h0)]
        exact .lst0 _ _ _
       ·have hml : ∀ q : Nat, (if mx.isSome then m.toNat else cap) = q → q ≠ l.toNat ∧ h'.toNat ≤ q := by
         rintro q rfl
         split <;> omega
        obtain ⟨hne, hle⟩ := hml _ rfl
        rw [if_neg hne]
        have hE2 := (hE.take h'.toNat).drop l.toNat
        have := Rep.lst (c := c) sz _ b (o + l.toNat * sz) ((if mx.isSome then m.toNat else cap) - l.toNat) _ hsh hE2 (fun i v hi => ?_) (by omega)
        ·rw [hlen] at this
         simpa [add_addr] using this
        ·rw [List.getElem?_drop, List.getElem?_take] at hi
         split at hi
         ·rw [Nat.add_assoc]; exact hc _ _ hi
         ·cases hi
     ·cases h
    ·cases h
   ·cases h
  ·rename_i lc g off len
   split at h
   ·rename_i ro g' sz' e' xs hS
    split at h
    ·rename_i hg
     obtain ⟨rfl, rfl⟩ := hg
     unfold cutT at h
     split at h
     ·rename_i l h' m hl hh hm
      split at h
      ·rename_i hb
       simp only [Option.some.injEq] at h
       subst h
       cases hx with
       | own _ _ _ _ A cap ho =>
        simp only [OwnOk, hS] at ho
        obtain ⟨hD, hlen, hcap, hA⟩ := ho.2 trivial
        have := fun w => sliceBounds_run (P := P) hs (n := len) (cap := cap) hcap hl hh hm hb w
        refine ⟨_, fun w => hrun w A len cap _ _ _ (this w), .own _ _ _ _ _ _ ?_⟩
        simp only [OwnOk, hS]
        refine ⟨Nat.le_refl _, fun _ => ⟨hD, by omega, ?_, ?_⟩⟩
        ·split <;> omega
        ·have hq : ∀ q : Nat, (if mx.isSome then m.toNat else cap) = q → q ≤ cap ∧ l.toNat ≤ q := by
          rintro q rfl
          split <;> omega
         obtain ⟨hq1, hq2⟩ := hq _ rfl
         generalize (if mx.isSome then m.toNat else cap) = q at hq1 hq2 ⊢
         by_cases h0 : q = l.toNat
         ·left; omega
         ·right
          rw [if_neg h0]
          rcases hA with hA | ⟨cur, fz, rfl, hw, hsz'⟩
          ·omega
          ·refine ⟨cur, fz, by simp [add_addr, Nat.add_mul], hw, ?_⟩
           refine Nat.le_trans (Nat.mul_le_mul_right _ ?_) hsz'
           omega
      ·cases h
     ·cases h
    ·cases h
   ·cases h
  ·cases h
 ·cases h

/-! ### records -/
theorem foldl_set (off : Nat) : ∀ (vs : List Value) (k : Nat) (cs : Array Value), off + k + vs.length ≤ cs.size →
  ((vs.zipIdx k).foldl (fun cs p => cs.setIfInBounds (off + p.2) p.1) cs).toList = cs.toList.take (off + k) ++ vs ++ cs.toList.drop (off + k + vs.length)
 | [], k, cs, h => by simp
 | v :: vs, k, cs, h => by
  simp only [List.length_cons] at h
  have hlt : off + k < cs.size := by omega
  rw [List.zipIdx_cons, List.foldl_cons, foldl_set off vs (k + 1) _ (by simp; omega)]
  simp only [Array.toList_setIfInBounds, List.length_cons]
  have e := list_seg_step cs.toList (off + k) v vs (by simp; omega)
  simpa [Nat.add_assoc, Nat.add_comm, Nat.add_left_comm] using e

theorem fill_cells (off : Nat) (v : Value) (cs : Array Value) (h : off + v.cells.size ≤ cs.size) :
  (v.cells.zipIdx.foldl (fun cs (x : Value × Nat) => cs.setIfInBounds (off + x.2) x.1) cs).toList = cs.toList.take off ++ v.cells.toList ++ cs.toList.drop (off + v.cells.size) := by
 have := foldl_set off v.cells.toList 0 cs (by simpa using h)
 rw [← Array.foldl_toList, Array.toList_zipIdx]
 simpa using this

theorem fillT_rep {P : Program} {c : Ctx} {nn : Nat} {s : Slots} {a : Act} (hs : SR c nn s a) {ps : List (Nat × Nat)} : ∀ (parts : List (Nat × Operand)) {cs r : List T} {cur : Array Value},
  fillT ps s cs parts = some r → RepL c cs cur.toList → ∃ out, Instr.fill (ps[·]?) cur (parts.map fun p => (p.1, a.eval p.2)) = some out ∧ RepL c r out.toList
 | [], cs, r, cur, h, hl => by
  simp only [fillT, Option.some.injEq] at h
  subst h
  exact ⟨cur, rfl, hl⟩
 | (i, x) :: parts, cs, r, cur, h, hl => by
  simp only [fillT] at h
  split at h
  ·rename_i off n t hp hx
   split at h
   ·rename_i hc
    obtain ⟨hn, hfit, hon⟩ := hc
    have hv := ev_rep hs hx
    have hcl := hv.cells hon
    have hsz : (a.eval x).cells.size = n := by have := hcl.length; simpa [hn] using this
    have hcs : cs.length = cur.size := by have := hl.length; simpa using this.symm
    have hf := fill_cells off (a.eval x) cur (by omega)
    have hr := hl.splice hcl off
    simp only [Array.length_toList] at hr
    rw [← hf] at hr
    obtain ⟨out, ho, hro⟩ := fillT_rep (P := P) hs parts h hr
    refine ⟨out, ?_, hro⟩
    simp only [List.map_cons, Instr.fill, hp]
    rw [if_neg (by simp [hsz]; omega)]
    exact ho
   ·cases h
  ·cases h

theorem buildT_sound {P : Program} {c : Ctx} {nn : Nat} {s : Slots} {a : Act} (hs : SR c nn s a) {t : TypeId} {parts : Array (Nat × Operand)} {r : T} (h : buildT P s t parts.toList = some r) :
  ∃ v, (∀ w, (Instr.build t (parts.map fun (p : Nat × Operand) => (p.1, a.eval p.2))).run P w = .ok v w) ∧ Rep c r v := by
 unfold buildT at h
 split at h
 ·rename_i ps z hp hz
  cases hf : fillT ps s z parts.toList with
  | none => simp [hf] at h
  | some cs =>
   simp only [hf, Option.map_some, Option.some.injEq] at h
   subst h
   obtain ⟨i, zv, hi, hzv, hzr⟩ := zeroCellsT_rep hz c
   obtain ⟨out, ho, hr⟩ := fillT_rep (P := P) hs parts.toList hf hzr
   unfold placesT at hp
   split at hp
   ·rename_i fs hu
    have hb : P.built t (parts.map fun (p : Nat × Operand) => (p.1, a.eval p.2)).toList = some out := by
     simp only [Program.built, hi, hu, hzv, hp, Array.toList_map]
     simpa using ho
    refine ⟨_, fun w => run_build w t _ out hb, ?_⟩
    have := Rep.agg _ _ hr
    simpa using this
   ·cases hp
 ·cases h

/-! ### rows of given elements -/
theorem freezeL_rep {c : Ctx} (hR : Rel c) : ∀ (ts : List T) {us : List T} {S' : Store} {vs : List Value}, freezeL c.S ts = some (us, S') → RepL c ts vs →
  closedL us = true ∧ ∃ ls, S' = setRo c.S ls ∧ RepL (ctxShut c ls) us vs := by
 have key : ∀ (ts : List T) (ls0 : List Loc) {us : List T} {S' : Store} {vs : List Value}, freezeL (setRo c.S ls0) ts = some (us, S') → RepL (ctxShut c ls0) ts vs →
   closedL us = true ∧ ∃ ls, S' = setRo c.S ls ∧ (∀ b, (ctxShut c ls0).Sh b → (ctxShut c ls).Sh b) ∧ RepL (ctxShut c ls) us vs := by
  intro ts
  induction ts with
  | nil =>
   intro ls0 us S' vs h hv
   simp only [freezeL, Option.some.injEq, Prod.mk.injEq] at h
   obtain ⟨rfl, rfl⟩ := h
   cases hv
   exact ⟨rfl, ls0, rfl, fun _ h => h, .nil⟩
  | cons x xs ih =>
   intro ls0 us S' vs h hv
   simp only [freezeL] at h
   split at h
   ·rename_i y S1 h1
    split at h
    ·rename_i ys S2 h2
     simp only [Option.some.injEq, Prod.mk.injEq] at h
     obtain ⟨rfl, rfl⟩ := h
     cases hv with
     | cons _ v _ vs hx hr =>
      obtain ⟨hcy, ls1, rfl, hy⟩ := freeze_rep (ctxShut_rel hR ls0) h1 hx
      have hSS : setRo (setRo c.S ls0) ls1 = setRo c.S (ls0 ++ ls1) := by
       funext m
       simp only [setRo]
       cases c.S m with
       | none => rfl
       | some o => cases o <;> simp [Bool.or_assoc]
      have hsub : ∀ b, (ctxShut (ctxShut c ls0) ls1).Sh b → (ctxShut c (ls0 ++ ls1)).Sh b := by
       rintro b ((h | ⟨l, hl, hD, ho, hb⟩) | ⟨l, hl, hD, ⟨ro, g, sz, e, zs, hS⟩, hb⟩)
       ·exact .inl h
       ·exact .inr ⟨l, by simp at hl ⊢; exact .inl hl, hD, ho, hb⟩
       ·refine .inr ⟨l, by simp at hl ⊢; exact .inr hl, hD, ?_, hb⟩
        rcases setRo_inv hS with ⟨ro', g', sz', e', xs', h3, _⟩ | ⟨_, h3⟩
        ·exact ⟨_, _, _, _, _, h3⟩
        ·exact absurd rfl (h3 _ _ _ _ _)
      have hsub0 : ∀ b, (ctxShut c ls0).Sh b → (ctxShut c (ls0 ++ ls1)).Sh b := fun b hb => hsub b (.inl hb)
      have hkr : Kept (ctxShut c ls0) (ctxShut c (ls0 ++ ls1)) := by
       have hk := ctxShut_kept (ctxShut c ls0) ls1
       refine ⟨fun b hb => ⟨hsub0 b hb, rfl⟩, fun l hl => ?_, fun l ro g sz e zs hS => ?_, fun l hS => ?_⟩
       ·obtain ⟨⟨hD, cs, hS⟩, hβ⟩ := hk.box l hl
        exact ⟨⟨hD, cs, by simp only [ctxShut] at hS ⊢; rw [← hSS]; exact hS⟩, rfl⟩
       ·have := hk.arr l ro g sz e zs hS
        simp only [ctxShut, ← hSS] at this ⊢
        exact this
       ·have := hk.gone l hS
        simp only [ctxShut, ← hSS] at this ⊢
        exact this
      rw [show setRo (ctxShut c ls0).S ls1 = setRo c.S (ls0 ++ ls1) from hSS] at h2
      obtain ⟨hcs, ls, rfl, hS2, hys⟩ := ih (ls0 ++ ls1) h2 (hr.kept hkr)
      refine ⟨by simp [closedL, hcy, hcs], ls, rfl, fun b hb => hS2 b (hsub0 b hb), .cons _ _ _ _ ?_ hys⟩
      exact closed_kept (fun b hb => ⟨hS2 b (hsub b hb), rfl⟩) hcy hy
    ·cases h
   ·cases h
 intro ts us S' vs h hv
 have h0 : setRo c.S [] = c.S := by
  funext m
  simp only [setRo]
  cases c.S m with
  | none => rfl
  | some o => cases o <;> simp
 obtain ⟨h1, ls, h2, _, h3⟩ := key ts [] (by rw [h0]; exact h) (hv.kept (ctxShut_kept c []))
 exact ⟨h1, ls, h2, h3⟩

end Go.TM
