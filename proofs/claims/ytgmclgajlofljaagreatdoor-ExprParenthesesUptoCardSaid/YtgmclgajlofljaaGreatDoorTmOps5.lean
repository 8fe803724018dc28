/- Rows of given elements; append, copy, conversions. -/
import Derived.Test.YtgmclgajlofljaaGreatDoorTmDef
import Derived.Deep.Upon
import Derived.Lib.ConvBytes
import Derived.Laws.BytesString
import Derived.Lib.Builder
import Derived.Lib.AppendZeros
import Derived.Lib.UnsafeStr
import Derived.Laws.Externs
set_option linter.all false
namespace Go.TM
open Go
theorem closedL_iff {ts : List T} : closedL ts = true ↔ ∀ t ∈ ts, closed t = true := by
 induction ts with
 | nil => simp [closedL]
 | cons x xs ih => simp [closedL, ih]
theorem repE_of {c : Ctx} {sz : Nat} : ∀ {us : List T} {vs : List Value}, RepL c us vs → closedL us = true → (us.all fun u => decide (u.cells.length = sz)) = true →
  RepE c sz us (vs.flatMap fun v => v.cells.toList)
 | _, _, .nil, _, _ => .nil sz
 | _, _, .cons x v xs vs hx hr, hc, hs => by
  simp only [closedL, Bool.and_eq_true] at hc
  simp only [List.all_cons, Bool.and_eq_true, decide_eq_true_eq] at hs
  rw [List.flatMap_cons]
  exact .cons sz x v _ _ hx hs.1 hc.1 (repE_of hr hc.2 hs.2)
theorem fill_row {sz : Nat} : ∀ (vs : List Value) (k : Nat) (cur : Array Value), (∀ v ∈ vs, v.cells.size = sz) → cur.size = (k + vs.length) * sz →
  ∃ out, Instr.fill (fun i => some (i * sz, sz)) cur (vs.zipIdx k |>.map fun p => (p.2, p.1)) = some out ∧ out.toList = cur.toList.take (k * sz) ++ vs.flatMap fun v => v.cells.toList
 | [], k, cur, _, hsz => ⟨cur, rfl, by simp [List.take_of_length_le, hsz]⟩
 | v :: vs, k, cur, hv, hsz => by
  have hv0 : v.cells.size = sz := hv v (by simp)
  simp only [List.length_cons] at hsz
  have hfit : k * sz + v.cells.size ≤ cur.size := by
   rw [hsz, hv0, ← Nat.succ_mul]
   exact Nat.mul_le_mul_right _ (by omega)
  have hf := fill_cells (k * sz) v cur hfit
  obtain ⟨out, ho, hl⟩ := fill_row vs (k + 1) (v.cells.zipIdx.foldl (fun cs (x : Value × Nat) => cs.setIfInBounds (k * sz + x.2) x.1) cur) (fun u hu => hv u (by simp [hu])) (by
   have := congrArg List.length hf
   simp only [List.length_append, List.length_take, List.length_drop, Array.length_toList] at this
   have h2 : (v.cells.zipIdx.foldl (fun cs (x : Value × Nat) => cs.setIfInBounds (k * sz + x.2) x.1) cur).size = cur.size := by rw [this]; omega
   rw [h2, hsz]
   congr 1
   omega)
  refine ⟨out, ?_, ?_⟩
  ·rw [List.zipIdx_cons, List.map_cons]
   simp only [Instr.fill]
   rw [if_neg (by simp [hv0]; omega)]
   exact ho
  ·rw [hl, hf, List.flatMap_cons, ← List.append_assoc]
   congr 1
   rw [List.take_append, List.take_of_length_le (by simp [hv0, Nat.add_mul]; omega)]
   rw [show (k + 1) * sz - (cur.toList.take (k * sz) ++ v.cells.toList).length = 0 from by simp [hv0, Nat.add_mul]; omega]
   simp
theorem range_zip {α : Type} : ∀ (ps : List (Nat × α)) (k : Nat), ps.map (·.1) = List.range' k ps.length → ps = ((ps.map (·.2)).zipIdx k).map fun p => (p.2, p.1)
 | [], _, _ => rfl
 | (i, x) :: ps, k, h => by
  simp only [List.map_cons, List.length_cons, List.range'_succ, List.cons.injEq] at h
  obtain ⟨rfl, h⟩ := h
  simp only [List.map_cons, List.zipIdx_cons]
  congr 1
  exact range_zip ps (i + 1) h
def ctxSh (c : Ctx) (b : Nat) (w' : World) : Ctx := { c with Sh := fun x => c.Sh x ∨ x = b, w := w' }
theorem ctxSh_kept {c : Ctx} {b : Nat} {w' : World} (hR : Rel c) (hw : ∀ x, x < c.w.heap.size → w'.heap[x]? = c.w.heap[x]?) : Kept c (ctxSh c b w') := by
 refine ⟨fun x hx => ⟨.inl hx, hw x (hR.lt x hx)⟩, fun l hl => ⟨hl, rfl⟩, fun l ro g sz e xs hS => .inr ⟨ro, g, sz, e, xs, hS, Nat.le_refl _, fun _ => ⟨rfl, rfl, rfl, fun hD => ⟨hD, rfl, fun cur fz hc => ⟨cur, fz, ?_, rfl⟩⟩⟩⟩, fun l h => h⟩
 show w'.heap[c.β l]? = _
 rw [hw _ (lt_of_get hc)]; exact hc
theorem ctxSh_rel {c : Ctx} {w' : World} (hR : Rel c) (hw : ∀ x, x < c.w.heap.size → w'.heap[x]? = c.w.heap[x]?) (hsz : c.w.heap.size < w'.heap.size) : Rel (ctxSh c c.w.heap.size w') := by
 have hk := ctxSh_kept (b := c.w.heap.size) hR hw
 refine ⟨fun l bt cs hD hS => ?_, fun l ro g sz e xs hD hS => ?_, fun l hD hm => ?_, fun l l' hD hD' hm hm' => hR.inj l l' hD hD' hm hm', fun b hb => ?_, hR.dom⟩
 ·obtain ⟨h1, vs, h3, h4⟩ := hR.box l bt cs hD hS
  exact ⟨h1, vs, (hw _ (lt_of_get h3)).trans h3, h4.kept hk⟩
 ·obtain ⟨cur, fz, vs, h3, h4, h5, h6, h7⟩ := hR.arr l ro g sz e xs hD hS
  exact ⟨cur, fz, vs, (hw _ (lt_of_get h3)).trans h3, h4, fun h => .inl (h5 h), h6.kept hk, h7⟩
 ·rintro (h | h)
  ·exact hR.nsh l hD hm h
  ·have := hR.mutLt hD (show Mut c l from hm)
   have h' : c.β l = c.w.heap.size := h
   omega
 ·rcases hb with hb | rfl
  ·exact Nat.lt_trans (hR.lt b hb) hsz
  ·exact hsz
theorem ctxSh_fr {c : Ctx} {w' : World} (hc : Calm c.w w') (hw : ∀ x, x < c.w.heap.size → w'.heap[x]? = c.w.heap[x]?) (hsz : c.w.heap.size ≤ w'.heap.size) : Fr c (ctxSh c c.w.heap.size w') :=
 ⟨hc.os, hc.tape, hc.output, hsz, fun b hb _ => hw b hb, fun l hD hm => .inl ⟨hD, hm, rfl⟩, fun b hb => (show c.Sh b ∨ b = c.w.heap.size from hb).imp id fun e => .inl (Nat.le_of_eq e.symm)⟩
theorem buildSliceT_sound {P : Program} {om : FuncId → List Nat} {L : Nat} {c : Ctx} (hR : Rel c) (hL : ∀ l, c.D l → l.1 ≤ L) {nn : Nat} {s : Slots} {a : Act} (hs : SR c nn s a) {d : Option Tmp} {t : TypeId} {len : Nat}
  {parts : Array (Nat × Operand)} {re : Res} (h : buildSliceT P om L d s c.S t len parts.toList = some re) :
  ∃ v c', (Instr.buildSlice t len (parts.map fun (p : Nat × Operand) => (p.1, a.eval p.2))).run P c.w = .ok v c'.w ∧ Stp L c re.S re.t v c' := by
 unfold buildSliceT at h
 split at h
 ·rename_i hr
  obtain ⟨hrange, hlen⟩ := hr
  split at h
  ·rename_i e sz ts he hts
   obtain ⟨hu, hsz⟩ := elemT_slice he
   split at h
   ·rename_i us S1 hf
    split at h
    ·rename_i hc
     simp only [Bool.and_eq_true, decide_eq_true_eq] at hc
     obtain ⟨⟨hall, hzs⟩, hsz1000⟩ := hc
     obtain ⟨z, hz⟩ := Option.isSome_iff_exists.1 hzs
     have hvs := evL_rep hs hts
     obtain ⟨hcl, ls, rfl, hus⟩ := freezeL_rep hR ts hf hvs
     obtain ⟨i, zv, v0, hi, hzv, hzsz, his, hpos, _⟩ := zeroT_info hz hsz c
     have hE := repE_of hus hcl hall
     have hpl : parts.toList.length = len := by
      have := congrArg List.length hrange
      simpa using this
     have hEl := hE.length
     have hul : us.length = len := by have := hus.length; simp only [List.length_map] at this; omega
     have hvsz : ∀ v ∈ (parts.toList.map (·.2)).map a.eval, v.cells.size = sz := by
      intro v hv
      obtain ⟨j, hj⟩ := List.mem_iff_getElem?.1 hv
      have hjl : j < us.length := by
       have h1 := hus.length
       have h2 := (List.getElem?_eq_some_iff.1 hj).1
       omega
      obtain ⟨v', hv', hr'⟩ := hus.get (List.getElem?_eq_getElem hjl)
      rw [hj] at hv'
      simp only [Option.some.injEq] at hv'
      subst hv'
      have hcu := closedL_iff.1 hcl us[j] (List.getElem_mem hjl)
      have h3 := (hr'.cells (closed_ones hcu)).length
      have h4 := of_decide_eq_true (List.all_eq_true.1 hall us[j] (List.getElem_mem hjl))
      simpa [h4] using h3
     have hcur : ((Array.range (len * sz)).map (zv.cells[· % zv.cells.size]!)).size = len * sz := by simp
     obtain ⟨out, ho, hol⟩ := fill_row (sz := sz) ((parts.toList.map (·.2)).map a.eval) 0 ((Array.range (len * sz)).map (zv.cells[· % zv.cells.size]!)) hvsz (by simp [hpl])
     simp only [Nat.zero_mul, List.take_zero, List.nil_append] at hol
     have hparts : parts.toList.map (fun p => (p.1, a.eval p.2)) = (((parts.toList.map (·.2)).map a.eval).zipIdx 0).map fun p => (p.2, p.1) := by
      have h1 := range_zip (parts.toList.map fun p => (p.1, a.eval p.2)) 0 (by simpa [List.range_eq_range', Function.comp_def, hpl] using hrange)
      simpa [Function.comp_def] using h1
     have hsize : out.size = len * sz := by
      have h1 : out.toList.length = us.length * sz := by rw [hol]; exact hEl
      simpa [hul] using h1
     have hres : ¬ (16777216 < len * sz) := by
      have : len * sz ≤ 4096 * 1000 := Nat.mul_le_mul hlen hsz1000
      omega
     have hrun : (Instr.buildSlice t len (parts.map fun (p : Nat × Operand) => (p.1, a.eval p.2))).run P c.w = .ok (.slice (some ⟨c.w.heap.size, 0, none⟩) len len) (c.w.alloc (.cells out e)) := by
      by_cases h0 : len * sz = 0
      ·have hh : len = 0 := by
        rcases Nat.mul_eq_zero.1 h0 with h | h
        ·exact h
        ·omega
       have hp0 : parts = #[] := by
        apply Array.toList_inj.1
        exact List.eq_nil_of_length_eq_zero (by omega)
       have ho0 : out = #[] := Array.eq_empty_of_size_eq_zero (by omega)
       subst hh hp0 ho0
       simp [Instr.buildSlice, Sem.run_bind, run_underlying hu, sizeOf_run hsz, Instr.fill, newRow, Array.range_zero']
      ·simp [Instr.buildSlice, Sem.run_bind, run_underlying hu, sizeOf_run hsz, h0, hres, zeroValue, typeInfo, hi, hzv]
       rw [hparts, ho]
       simp [newRow]
     unfold bornArr at h
     split at h
     ·simp only [Option.some.injEq] at h
      subst h
      have hsz' : (ctxShut c ls).w.heap.size < (c.w.alloc (.cells out e)).heap.size := by show c.w.heap.size < (c.w.heap.push _).size; simp
      have hold : ∀ x, x < (ctxShut c ls).w.heap.size → (c.w.alloc (.cells out e)).heap[x]? = (ctxShut c ls).w.heap[x]? := fun b hb => World.alloc_old hb
      have hR1 := ctxShut_rel hR ls
      have hk := ctxSh_kept (b := c.w.heap.size) hR1 hold
      refine ⟨_, ctxSh (ctxShut c ls) c.w.heap.size (c.w.alloc (.cells out e)), hrun, Stp.after_shut hR ⟨ctxSh_rel hR1 hold hsz', hk, ctxSh_fr ⟨rfl, rfl, rfl⟩ hold (by omega), rfl, ?_, hL, fun _ h => .inl h, fun h => h⟩⟩
      have := Rep.lst (c := ctxSh (ctxShut c ls) c.w.heap.size (c.w.alloc (.cells out e))) sz us c.w.heap.size 0 len _ (.inr rfl) (hE.kept hk) (fun i v hi => by
       rw [Nat.zero_add]
       show (c.w.alloc (.cells out e)).cell? _ = _
       rw [cell_at (World.alloc_new c.w (.cells out e)), ← Array.getElem?_toList, hol]; exact hi) (by omega)
      rw [hul] at this
      exact this
     obtain ⟨c', hw, hst⟩ := newArr_sound (cur := out) (cap := len) (ctxShut_rel hR ls) (fun l h => hL l h) h hE (w' := c.w.alloc (.cells out e)) ⟨rfl, rfl, rfl⟩
      (fun b hb => World.alloc_old hb) (by show _ ≤ (c.w.heap.push _).size; simp [ctxShut]) (World.alloc_new _ _) (by rw [hol]; exact List.take_length) (by omega) (by omega)
     rw [hul] at hst
     exact ⟨_, c', by rw [hw]; exact hrun, hst.after_shut hR⟩
    ·cases h
   ·cases h
  ·cases h
 ·cases h
theorem elemsOf_rep {c : Ctx} (hR : Rel c) {y : T} {yv : Value} {sy : Option Nat} {ys : List T} {f : Nat} (h : elemsOf c.S y = some (sy, ys, f)) (hy : Rep c y yv) :
  ∃ A n cap, yv = .slice A n cap ∧ n = ys.length ∧ (sy = none → ys = []) ∧ (ys ≠ [] → ∃ sz us b o, sy = some sz ∧ RepE c sz ys us ∧ A = some ⟨b, o, none⟩ ∧ ∀ i v, us[i]? = some v → c.w.cell? ⟨b, o + i, none⟩ = some v) ∧
   (∀ sz, sy = some sz → ∃ us, RepE c sz ys us) := by
 cases y with
 | lst sz xs =>
  simp only [elemsOf, Option.some.injEq, Prod.mk.injEq] at h
  obtain ⟨rfl, rfl, rfl⟩ := h
  cases hy with
  | lst0 _ A cap => exact ⟨A, 0, cap, rfl, rfl, by simp, by simp, fun sz' h => ⟨[], by cases h; exact .nil _⟩⟩
  | lst _ _ b o cap vs hs hE hc hcap => exact ⟨_, _, cap, rfl, rfl, by simp, fun _ => ⟨sz, vs, b, o, rfl, hE, rfl, hc⟩, fun sz' h => ⟨vs, by cases h; exact hE⟩⟩
 | own l g off len =>
  simp only [elemsOf] at h
  split at h
  ·rename_i ro g' sz e xs hS
   split at h
   ·rename_i hg
    obtain ⟨rfl, hlen⟩ := hg
    simp only [Option.some.injEq, Prod.mk.injEq] at h
    obtain ⟨rfl, rfl, rfl⟩ := h
    cases hy with
    | own _ _ _ _ A cap ho =>
     simp only [OwnOk, hS] at ho
     obtain ⟨hD, h1, h2, h3⟩ := ho.2 trivial
     obtain ⟨cur, fz, vs, hw, _, _, hE, htk⟩ := hR.arr l _ _ _ _ _ hD hS
     have hE2 := (hE.drop off).take len
     have hl : ((xs.drop off).take len).length = len := by simp; omega
     refine ⟨A, len, cap, rfl, hl.symm, by simp, fun hne => ?_, fun sz' h => ⟨_, by cases h; exact hE2⟩⟩
     have hlen0 : len ≠ 0 := fun h0 => hne (List.eq_nil_of_length_eq_zero (by omega))
     obtain ⟨cur', fz', rfl, hw', hsz⟩ := h3.resolve_left (by omega)
     refine ⟨sz, _, c.β l, off * sz, rfl, hE2, rfl, fun i v hi => ?_⟩
     rw [cell_at hw]
     rw [List.getElem?_take] at hi
     split at hi
     ·rw [List.getElem?_drop] at hi
      rw [← Array.getElem?_toList]
      exact take_get htk hi
     ·cases hi
   ·cases h
  ·cases h
 | sc v =>
  obtain rfl := hy.scv
  cases yv with
  | slice A n cp =>
   cases A with
   | some ad => simp [elemsOf] at h
   | none =>
    simp only [elemsOf, Option.some.injEq, Prod.mk.injEq] at h
    obtain ⟨rfl, rfl, rfl⟩ := h
    cases hy with
    | sc _ hsc =>
     simp only [isSc, Bool.and_eq_true, beq_iff_eq] at hsc
     obtain ⟨rfl, rfl⟩ := hsc
     exact ⟨none, 0, 0, rfl, rfl, fun _ => rfl, by simp, by simp⟩
  | _ => simp [elemsOf] at h
 | undef => simp [elemsOf] at h
 | ptr l off => simp [elemsOf] at h
 | lptr sz xs i off => simp [elemsOf] at h
 | aptr l g i off => simp [elemsOf] at h
 | clo f cs => simp [elemsOf] at h
 | agg cs => simp [elemsOf] at h
 | tup cs => simp [elemsOf] at h
theorem append_zero {P : Program} {w : World} {t ty e : TypeId} {sz : Nat} (hu : P.underlying t = some (.slice e)) (hsz : szOf P e = some sz) (A B : Option Addr) (n cap cap2 : Nat) (hcap : n ≤ cap) :
  (Builtin.append_ #[t, t] ty #[.slice A n cap, .slice B 0 cap2]).run P w = .ok (.slice A n cap) w := by
 have h0 : (loadCells (B.getD default) 0).run P w = .ok #[] w := by simp [loadCells, loadCellsFrom]
 cases A <;> cases B <;> simp [Builtin.append_, Sem.run_bind, run_underlying hu, sizeOf_run hsz, Builtin.lenOf, hcap, Builtin.firstCells, loadCells, loadCellsFrom, storeCells]
theorem drew_heap (w : World) : w.drew.heap = w.heap := rfl
theorem calm_drew_alloc (w : World) (o : Go.Obj) : Calm w (w.drew.alloc o) := ⟨rfl, rfl, rfl⟩
theorem appendC_sound {P : Program} {om : FuncId → List Nat} {L : Nat} {c : Ctx} (hR : Rel c) (hL : ∀ l, c.D l → l.1 ≤ L) {d : Option Tmp} {t u ty : TypeId} {x y : T} {xv yv : Value} {re : Res}
  (h : appendT P om L d c.S t t x y = some re) (hx : Rep c x xv)
  (hsrc : ∀ e sz sy ys fy, elemT P t = some (e, sz) → elemsOf c.S y = some (sy, ys, fy) → (sy = none ∨ sy = some sz) → ∃ us, Src P sz u yv ys.length us c.w ∧ RepE c sz ys us) :
  ∃ v c', (Builtin.append_ #[t, u] ty #[xv, yv]).run P c.w = .ok v c'.w ∧ Stp L c re.S re.t v c' := by
 unfold appendT at h
 split at h
 ·cases h
 ·split at h
  ·rename_i e sz sy ys fy he hel
   obtain ⟨hu, hsz⟩ := elemT_slice he
   split at h
   ·rename_i hc
    obtain ⟨hsy, hz⟩ := hc
    obtain ⟨z, hz⟩ := Option.isSome_iff_exists.1 hz
    obtain ⟨i, zv, v0, hi, hzv, hzsz, his, hpos, hby, _⟩ := zeroT_info hz hsz c
    obtain ⟨us, hs, hE⟩ := hsrc e sz sy ys fy he hel hsy
    have hul : us.length = ys.length * i.size := by rw [hE.length, his]
    have nothing : ys = [] → ∀ (A : Option Addr) (n cap : Nat), n ≤ cap → (Builtin.append_ #[t, u] ty #[.slice A n cap, yv]).run P c.w = .ok (.slice A n cap) c.w := fun h0 A n cap hle => by
     subst h0
     cases hE
     exact run_append_nothing c.w t u ty e i hu hi A n cap hle yv (by rw [his]; exact hs)
    split at h
    ·rename_i m cp hx'
     obtain rfl := hx.scv
     cases hx with
     | sc _ hsc =>
      simp only [isSc, Bool.and_eq_true, beq_iff_eq] at hsc
      obtain ⟨rfl, rfl⟩ := hsc
      split at h
      ·rename_i hemp
       simp only [List.isEmpty_iff] at hemp
       subst hemp
       simp only [Option.some.injEq] at h
       subst h
       exact ⟨_, c, nothing rfl none 0 0 (Nat.le_refl _), .same hR hL (.sc _ rfl)⟩
      ·rename_i hemp
       simp only [List.isEmpty_iff] at hemp
       split at h
       ·rename_i hmax
        simp only [maxRow] at hmax
        have hpos' : 0 < ys.length := by cases ys with | nil => exact absurd rfl hemp | cons _ _ => simp
        have hby' : ys.length * i.bytes ≤ 281474976710656 := by
         have : ys.length * i.bytes ≤ 1000000000 * 1000 := Nat.mul_le_mul hmax hby
         omega
        have hrun : (Builtin.append_ #[t, u] ty #[.slice none 0 0, yv]).run P c.w = .ok (.slice (some ⟨c.w.heap.size, 0, none⟩) ys.length (grownCap c.w ys.length 0 e)) (c.w.drew.alloc (.cells (us.toArray ++ Builtin.zeroCells zv.cells (grownCap c.w ys.length 0 e - ys.length)) e)) := by
         have := run_append_grow_src (P := P) c.w t u ty e i zv hu hi hzv none 0 0 [] (run_firstCells_none c.w.drew i.size 0 0 0) yv ys.length us (by rw [his]; exact hs) (by omega) (by omega) (by rw [Nat.zero_add, nextslicecap_zero (by omega)]; omega)
         simpa using this
        have hge := grownCap_ge c.w ys.length 0 e
        obtain ⟨c', hw, hst⟩ := newArr_at (lowP_le om L d e).1 (lowP_le om L d e).2 (cur := us.toArray ++ Builtin.zeroCells zv.cells (grownCap c.w ys.length 0 e - ys.length)) (cap := grownCap c.w ys.length 0 e) hR hL h hE
         (w' := c.w.drew.alloc (.cells (us.toArray ++ Builtin.zeroCells zv.cells (grownCap c.w ys.length 0 e - ys.length)) e)) (calm_drew_alloc _ _)
         (fun b hb => World.alloc_old (w := c.w.drew) hb) (by show _ ≤ (c.w.heap.push _).size; simp) (World.alloc_new c.w.drew _) (by simp) hge (by
          simp only [Array.size_append, List.size_toArray, size_zeroCells, hul, his, hzsz, ← Nat.add_mul]
          rw [Nat.add_sub_cancel' hge]; exact Nat.le_refl _)
        exact ⟨_, c', by rw [hw]; exact hrun, hst⟩
       ·cases h
    ·rename_i l g off len
     split at h
     ·rename_i ro g' sz' e' xs hS
      split at h
      ·rename_i hg
       obtain ⟨rfl, hlen⟩ := hg
       cases hx with
       | own _ _ _ _ A cap ho =>
        have ho' := ho
        simp only [OwnOk, hS] at ho'
        obtain ⟨hD, h1, h2, h3⟩ := ho'.2 trivial
        split at h
        ·rename_i hemp
         simp only [List.isEmpty_iff] at hemp
         subst hemp
         simp only [Option.some.injEq] at h
         subst h
         exact ⟨_, c, nothing rfl A len cap h2, .same hR hL (.own _ _ _ _ _ _ ho)⟩
        ·rename_i hemp
         simp only [List.isEmpty_iff] at hemp
         split at h
         ·rename_i hcnd
          obtain ⟨rfl, rfl, rfl, rfl, hmax⟩ := hcnd
          simp only [maxRow] at hmax
          simp only [Option.some.injEq] at h
          subst h
          obtain ⟨cur, fz, vs, hw, hfz, _, hEx, htk⟩ := hR.arr l _ _ _ _ _ hD hS
          obtain rfl := hfz rfl
          have hvl := hEx.length
          have hE2 := (hEx.take len).append hE
          have hpos' : 0 < ys.length := by cases ys with | nil => exact absurd rfl hemp | cons _ _ => simp
          have hby' : (len + ys.length) * i.bytes ≤ 140737488355328 := by
           have : (len + ys.length) * i.bytes ≤ 1000000000 * 1000 := Nat.mul_le_mul hmax hby
           omega
          have hoc : cur.toList.take (len * sz') = vs.take (len * sz') := by
           rw [← htk, List.take_take, Nat.min_eq_left]
           rw [hvl]; exact Nat.mul_le_mul_right _ hlen
          have hvt : (vs.take (len * sz')).length = len * sz' := by
           rw [List.length_take, hvl, Nat.min_eq_left]; exact Nat.mul_le_mul_right _ hlen
          by_cases hroom : len + ys.length ≤ cap
          ·
           obtain ⟨cur', fz', hA, hw', hfit⟩ := h3.resolve_left (by omega)
           rw [hw] at hw'
           simp only [Option.some.injEq, Obj.cells.injEq] at hw'
           obtain ⟨rfl, _, rfl⟩ := hw'
           simp only [Nat.zero_mul, Nat.zero_add] at hA hfit
           subst hA
           have hfit2 : len * i.size + us.length ≤ cur.size := by
            rw [hul, his, ← Nat.add_mul]; exact Nat.le_trans (Nat.mul_le_mul_right _ hroom) hfit
           have hst := run_storeCells_at P (c.β l) (len * i.size) e' us 0 cur c.w hw (by omega) hE.ones
           have hrun : (Builtin.append_ #[t, u] ty #[.slice (some ⟨c.β l, 0, none⟩) len cap, yv]).run P c.w = .ok (.slice (some ⟨c.β l, 0, none⟩) (len + ys.length) cap) (c.w.setRow (c.β l) (cur.toList.take (len * i.size) ++ us ++ cur.toList.drop (len * i.size + us.length)).toArray) := by
            have hs' : Src P i.size u yv ys.length us c.w := by rw [his]; exact hs
            simp only [Nat.add_zero] at hst
            rcases hs'.kind with ⟨e2, hk⟩ | hk <;> simp [Builtin.append_, run_underlying hu, run_underlying hk, sizeOf, typeInfo, hi, hs'.len, hroom, hs'.cells, Addr.add_lit, hst]
           simp only [his] at hrun hfit2
           have hwn := setRow_heap c.w (c.β l) cur (cur.toList.take (len * sz') ++ us ++ cur.toList.drop (len * sz' + us.length)).toArray e' (0, 0) hw
           have hp : PutOk c l (.arr false (g + 1) sz' e' (xs.take len ++ ys)) (c.β l) (c.w.setRow (c.β l) (cur.toList.take (len * sz') ++ us ++ cur.toList.drop (len * sz' + us.length)).toArray) :=
            .inr ⟨g, sz', e', xs, g + 1, _, hS, rfl, .inl (by omega)⟩
           have hoth : ∀ q, q < c.w.heap.size → q ≠ c.β l → (c.w.setRow (c.β l) (cur.toList.take (len * sz') ++ us ++ cur.toList.drop (len * sz' + us.length)).toArray).heap[q]? = c.w.heap[q]? := fun q _ hq => setRow_other _ _ _ _ hq
           have hcs : (cur.toList.take (len * sz') ++ us ++ cur.toList.drop (len * sz' + us.length)).length = cur.size := by
            rw [splice_length _ _ _ (by simpa using hfit2)]; simp
           refine ⟨_, ctxPut c l _ (c.β l) _, hrun, Stp.of_put hD hL (ctxPut_rel hR hD hp hoth (by simp) (.inl rfl) hwn ?_ ?_) (ctxPut_kept hR hD hp hoth)
            (ctxPut_fr hD hp (calm_setRow _ _ _) hoth (by simp) (.inl rfl)) (.own _ _ _ _ _ _ ?_)⟩
           ·intro bt cs he; cases he
           ·intro ro g0 sz0 e0 xs0 heq
            injection heq with a1 a2 a3 a4 a5
            subst a1 a2 a3 a4 a5
            refine ⟨rfl, _, hE2, ?_⟩
            simp only [List.toList_toArray]
            rw [← hoc, List.take_append_of_le_length (by simp)]
            exact List.take_length
           ·have hS' : (ctxPut c l (.arr false (g + 1) sz' e' (xs.take len ++ ys)) (c.β l) (c.w.setRow (c.β l) (cur.toList.take (len * sz') ++ us ++ cur.toList.drop (len * sz' + us.length)).toArray)).S l = some (.arr false (g + 1) sz' e' (xs.take len ++ ys)) := upd_same _ _ _
            simp only [OwnOk, hS']
            refine ⟨Nat.le_refl _, fun _ => ⟨hD, by simp; omega, hroom, .inr ⟨_, _, by simp [ctxPut], by simp only [ctxPut, if_true]; exact hwn, ?_⟩⟩⟩
            simp only [List.size_toArray]
            rw [hcs]
            simpa using hfit
          ·
           have hgrow : ∃ olds : List Value, olds = vs.take (len * sz') ∧ (Builtin.append_ #[t, u] ty #[.slice A len cap, yv]).run P c.w =
             .ok (.slice (some ⟨c.w.heap.size, 0, none⟩) (len + ys.length) (grownCap c.w (len + ys.length) cap e'))
              (c.w.drew.alloc (.cells (olds.toArray ++ us.toArray ++ Builtin.zeroCells zv.cells (grownCap c.w (len + ys.length) cap e' - (len + ys.length))) e')) := by
            refine ⟨_, rfl, ?_⟩
            cases hAc : A with
            | none =>
             have hc0 : cap = 0 := by
              rcases h3 with h | ⟨_, _, hA, _⟩
              ·exact h
              ·rw [hAc] at hA; cases hA
             subst hc0
             obtain rfl : len = 0 := by omega
             have := run_append_grow_src (P := P) c.w t u ty e' i zv hu hi hzv none 0 0 [] (run_firstCells_none c.w.drew i.size 0 0 0) yv ys.length us (by rw [his]; exact hs) (by omega) (by omega) (by rw [Nat.zero_add, nextslicecap_zero (by omega)]; simp only [Nat.zero_add] at hby'; omega)
             simpa using this
            | some ad =>
             have hold := run_firstCells_some (P := P) c.w.drew i.size len ad len cap (vs.take (len * sz')) (by rw [hvt, his]) (fun j v hj => ?_)
             have := run_append_grow_src (P := P) c.w t u ty e' i zv hu hi hzv (some ad) len cap _ hold yv ys.length us (by rw [his]; exact hs) (by omega) (by omega) (growslice_fits (by omega) hby')
             simpa using this
             rw [List.getElem?_take] at hj
             split at hj
             ·rename_i hjl
              have hl0 : len ≠ 0 := by intro h0; subst h0; simp at hjl
              obtain ⟨cur', fz', hA, _, _⟩ := h3.resolve_left (by omega)
              rw [hAc] at hA
              simp only [Nat.zero_mul, Option.some.injEq] at hA
              subst hA
              rw [add_addr, Nat.zero_add, show c.w.drew.cell? _ = c.w.cell? _ from rfl, cell_at hw, ← Array.getElem?_toList]
              exact take_get htk hj
             ·cases hj
           obtain ⟨olds, rfl, hrun⟩ := hgrow
           have hge := grownCap_ge c.w (len + ys.length) cap e'
           have hp : PutOk c l (.arr false (g + 1) sz' e' (xs.take len ++ ys)) c.w.heap.size (c.w.drew.alloc (.cells ((vs.take (len * sz')).toArray ++ us.toArray ++ Builtin.zeroCells zv.cells (grownCap c.w (len + ys.length) cap e' - (len + ys.length))) e')) :=
            .inr ⟨g, sz', e', xs, g + 1, _, hS, rfl, .inl (by omega)⟩
           have hwn := World.alloc_new c.w.drew (.cells ((vs.take (len * sz')).toArray ++ us.toArray ++ Builtin.zeroCells zv.cells (grownCap c.w (len + ys.length) cap e' - (len + ys.length))) e')
           have hoth : ∀ q, q < c.w.heap.size → q ≠ c.β l → (c.w.drew.alloc (.cells ((vs.take (len * sz')).toArray ++ us.toArray ++ Builtin.zeroCells zv.cells (grownCap c.w (len + ys.length) cap e' - (len + ys.length))) e')).heap[q]? = c.w.heap[q]? := fun q hq _ => World.alloc_old (w := c.w.drew) hq
           have hszw : c.w.heap.size ≤ (c.w.drew.alloc (.cells ((vs.take (len * sz')).toArray ++ us.toArray ++ Builtin.zeroCells zv.cells (grownCap c.w (len + ys.length) cap e' - (len + ys.length))) e')).heap.size := by show _ ≤ (c.w.heap.push _).size; simp
           refine ⟨_, ctxPut c l _ c.w.heap.size _, hrun, Stp.of_put hD hL (ctxPut_rel hR hD hp hoth hszw (.inr (Nat.le_refl _)) hwn ?_ ?_) (ctxPut_kept hR hD hp hoth)
            (ctxPut_fr hD hp (calm_drew_alloc _ _) hoth hszw (.inr (Nat.le_refl _))) (.own _ _ _ _ _ _ ?_)⟩
           ·intro bt cs he; cases he
           ·intro ro g0 sz0 e0 xs0 heq
            injection heq with a1 a2 a3 a4 a5
            subst a1 a2 a3 a4 a5
            refine ⟨rfl, _, hE2, ?_⟩
            simp only [Array.toList_append, List.toList_toArray]
            exact List.take_left
           ·have hS' : (ctxPut c l (.arr false (g + 1) sz' e' (xs.take len ++ ys)) c.w.heap.size (c.w.drew.alloc (.cells ((vs.take (len * sz')).toArray ++ us.toArray ++ Builtin.zeroCells zv.cells (grownCap c.w (len + ys.length) cap e' - (len + ys.length))) e'))).S l = some (.arr false (g + 1) sz' e' (xs.take len ++ ys)) := upd_same _ _ _
            simp only [OwnOk, hS']
            refine ⟨Nat.le_refl _, fun _ => ⟨hD, by simp; omega, hge, .inr ⟨_, _, by simp [ctxPut], by simp only [ctxPut, if_true]; exact hwn, ?_⟩⟩⟩
            simp only [Array.size_append, List.size_toArray, size_zeroCells, hul, hvt, his, hzsz, ← Nat.add_mul, Nat.zero_add]
            rw [Nat.add_sub_cancel' hge]; exact Nat.le_refl _
         ·cases h
      ·cases h
     ·cases h
    ·cases h
   ·cases h
  ·cases h
theorem src_slice {P : Program} {c : Ctx} (hR : Rel c) {t e : TypeId} {sz : Nat} {y : T} {yv : Value} (hu : P.underlying t = some (.slice e)) (hy : Rep c y yv) {sy : Option Nat} {ys : List T} {fy : Nat} (hel : elemsOf c.S y = some (sy, ys, fy))
  (hsy : sy = none ∨ sy = some sz) : ∃ us, Src P sz t yv ys.length us c.w ∧ RepE c sz ys us := by
 obtain ⟨B, n, cap2, rfl, rfl, hsn, hys, _⟩ := elemsOf_rep hR hel hy
 by_cases hne : ys = []
 ·subst hne
  refine ⟨[], ?_, .nil _⟩
  cases B with
  | none => exact Src.ofNil c.w hu cap2
  | some ad => exact Src.ofSlice c.w hu ad 0 cap2 [] (by simp) (fun j v hj => by simp at hj) (fun v hv => by cases hv)
 ·obtain ⟨sz', us, b, o, hs', hE, rfl, hcl⟩ := hys hne
  have : sz' = sz := by
   rcases hsy with h | h
   ·rw [h] at hs'; cases hs'
   ·rw [h] at hs'; exact (Option.some.inj hs').symm
  subst this
  exact ⟨us, Src.ofSlice c.w hu _ _ cap2 us hE.length (fun j v hj => by rw [add_addr]; exact hcl j v hj) hE.ones, hE⟩
theorem appendT_sound {P : Program} {om : FuncId → List Nat} {L : Nat} {c : Ctx} (hR : Rel c) (hL : ∀ l, c.D l → l.1 ≤ L) {d : Option Tmp} {t u ty : TypeId} {x y : T} {xv yv : Value} {re : Res}
  (h : appendT P om L d c.S t u x y = some re) (hx : Rep c x xv) (hy : Rep c y yv) :
  ∃ v c', (Builtin.append_ #[t, u] ty #[xv, yv]).run P c.w = .ok v c'.w ∧ Stp L c re.S re.t v c' := by
 have htu : t = u := by
  unfold appendT at h
  split at h
  ·cases h
  ·rename_i htu; simpa using htu
 subst htu
 exact appendC_sound hR hL h hx fun e sz sy ys fy he hel hsy => src_slice hR (elemT_slice he).1 hy hel hsy
theorem zeroCells_rep (z : Array Value) (n : Nat) (hz : 0 < z.size) : (Builtin.zeroCells z n).toList = (List.replicate n z.toList).flatten := by
 exact madeCells_rep z n hz
theorem copy_run {P : Program} {w : World} {t u ty e : TypeId} (hu : P.underlying t = some (.slice e)) (hsz : szOf P e = some 1) {g o dLen dCap : Nat} {A B : Option Addr} {sLen sCap : Nat} {cur : Array Value} {et : TypeId} {cs : List Value}
  (hA : dLen = 0 ∨ A = some ⟨g, o, none⟩) (hg : w.heap[g]? = some (.cells cur et (0, 0))) (hn : cs.length = min sLen dLen)
  (hsrc : cs ≠ [] → ∃ ad, B = some ad ∧ ∀ j v, cs[j]? = some v → w.cell? (ad.add j) = some v) (hfit : o + cs.length ≤ cur.size) (h1 : ∀ v ∈ cs, v.oneCell' = true) :
  (Builtin.copy_ #[t, u] ty #[.slice A dLen dCap, .slice B sLen sCap]).run P w = .ok (.int .i64 (min sLen dLen : Nat)) (w.setRow g (cur.toList.take o ++ cs ++ cur.toList.drop (o + cs.length)).toArray) := by
 cases hcs : cs with
 | nil =>
  subst hcs
  have h0 : min sLen dLen = 0 := hn.symm
  have hw : w.setRow g (cur.toList.take o ++ [] ++ cur.toList.drop (o + 0)).toArray = w := by
   simp only [List.append_nil, Nat.add_zero, List.take_append_drop, Array.toArray_toList]
   exact setRow_self w g cur et (0, 0) hg
  simp only [List.length_nil]
  rw [hw, h0]
  have h0' : Nat.min sLen dLen = 0 := h0
  cases A <;> cases B <;> simp [Builtin.copy_, Sem.run_bind, run_underlying hu, Builtin.lenOf, sizeOf_run hsz, h0', Builtin.firstCells, loadCells, loadCellsFrom, storeCells, goInt]
 | cons c0 cs0 =>
  rw [← hcs]
  have hne : cs ≠ [] := by rw [hcs]; simp
  obtain ⟨ad, rfl, hc⟩ := hsrc hne
  have hd : dLen ≠ 0 := by
   intro h0; subst h0
   simp at hn
   exact hne hn
  obtain rfl := hA.resolve_left hd
  obtain ⟨i, hi, his⟩ := szOf_info hsz
  have := run_copy_row (P := P) w t u ty e g o dLen dCap ad sLen sCap cur et cs hu (by simp [hi, his]) hg hn hc hfit h1
  rw [this, hn]
  rfl
theorem copyT_sound {P : Program} {L : Nat} {c : Ctx} (hR : Rel c) (hL : ∀ l, c.D l → l.1 ≤ L) {t u ty : TypeId} {x y : T} {xv yv : Value} {re : Res} (h : copyT P c.S t x y = some re) (hx : Rep c x xv) (hy : Rep c y yv) :
  ∃ v c', (Builtin.copy_ #[t, u] ty #[xv, yv]).run P c.w = .ok v c'.w ∧ Stp L c re.S re.t v c' := by
 unfold copyT at h
 split at h
 ·rename_i e sz sy ys fy he hel
  obtain ⟨hu, hsz⟩ := elemT_slice he
  obtain ⟨B, n, cap2, rfl, rfl, hsn, hys, hys2⟩ := elemsOf_rep hR hel hy
  split at h
  ·rename_i l g off len
   split at h
   ·rename_i ro g' sz' e' xs hS
    split at h
    ·rename_i hc
     obtain ⟨rfl, rfl, rfl, rfl, hsy, hlen⟩ := hc
     simp only [Option.some.injEq] at h
     subst h
     cases hx with
     | own _ _ _ _ A cap ho =>
      simp only [OwnOk, hS] at ho
      obtain ⟨hD, _, h2, h3⟩ := ho.2 trivial
      obtain ⟨cur, fz, vs, hw, hfz, _, hEx, htk⟩ := hR.arr l _ _ _ _ _ hD hS
      obtain rfl := hfz rfl
     
      obtain ⟨us, hEu, hsrc⟩ : ∃ us, RepE c 1 ys us ∧ (us ≠ [] → ∃ ad, B = some ad ∧ ∀ j v, us[j]? = some v → c.w.cell? (ad.add j) = some v) := by
       by_cases hne : ys = []
       ·subst hne; exact ⟨[], .nil 1, by simp⟩
       ·obtain ⟨sz1, us, b, o, hs', hE, hB, hcl⟩ := hys hne
        have : sz1 = 1 := by
         rcases hsy with h | h
         ·rw [h] at hs'; cases hs'
         ·rw [h] at hs'; exact (Option.some.inj hs').symm
        subst this
        exact ⟨us, hE, fun _ => ⟨_, hB, fun j v hj => by rw [add_addr]; exact hcl j v hj⟩⟩
      have hul := hEu.length
      have hvl := hEx.length
      simp only [Nat.mul_one] at hul hvl
      have hE' := hEu.take (min ys.length len)
      simp only [Nat.mul_one] at hE'
      have hcl : (us.take (min ys.length len)).length = min ys.length len := by simp; omega
      have hcs : vs.length ≤ cur.size := by rw [← htk, List.length_take]; simp; omega
      have hrun := copy_run (P := P) (w := c.w) (u := u) (ty := ty) hu hsz (g := c.β l) (o := off) (dLen := len) (dCap := cap) (A := A) (B := B) (sLen := ys.length) (sCap := cap2) (cs := us.take (min ys.length len)) (by
        rcases h3 with h | ⟨_, _, hA, _⟩
        ·left; omega
        ·right; simpa using hA) hw hcl (fun hne => by
         obtain ⟨ad, hB, hcl⟩ := hsrc (fun h => hne (by rw [h]; simp))
         refine ⟨ad, hB, fun j v hj => hcl j v ?_⟩
         rw [List.getElem?_take] at hj
         split at hj
         ·exact hj
         ·cases hj) (by omega) (fun v hv => hEu.ones v (List.mem_of_mem_take hv))
      rw [hcl] at hrun
      have hwn := setRow_heap c.w (c.β l) cur (cur.toList.take off ++ us.take (min ys.length len) ++ cur.toList.drop (off + min ys.length len)).toArray e' (0, 0) hw
      have hsz2 : (cur.toList.take off ++ us.take (min ys.length len) ++ cur.toList.drop (off + min ys.length len)).length = cur.size := by simp; omega
      have hyl : (ys.take (min ys.length len)).length = min ys.length len := by rw [List.length_take]; omega
      have hp : PutOk c l (.arr false g 1 e' (splice xs off (ys.take (min ys.length len)))) (c.β l) (c.w.setRow (c.β l) (cur.toList.take off ++ us.take (min ys.length len) ++ cur.toList.drop (off + min ys.length len)).toArray) :=
       .inr ⟨g, 1, e', xs, g, _, hS, rfl, .inr ⟨rfl, by unfold TM.splice; rw [splice_length _ _ _ (by omega)], rfl, fun cur' fz' hc' => by
        rw [hw] at hc'
        simp only [Option.some.injEq, Obj.cells.injEq] at hc'
        obtain ⟨rfl, _, rfl⟩ := hc'
        exact ⟨_, _, hwn, by simpa using hsz2⟩⟩⟩
      have hoth : ∀ q, q < c.w.heap.size → q ≠ c.β l → (c.w.setRow (c.β l) (cur.toList.take off ++ us.take (min ys.length len) ++ cur.toList.drop (off + min ys.length len)).toArray).heap[q]? = c.w.heap[q]? := fun q _ hq => setRow_other _ _ _ _ hq
      refine ⟨_, ctxPut c l _ (c.β l) _, hrun, Stp.of_put hD hL (ctxPut_rel hR hD hp hoth (by simp) (.inl rfl) hwn ?_ ?_) (ctxPut_kept hR hD hp hoth)
       (ctxPut_fr hD hp (calm_setRow _ _ _) hoth (by simp) (.inl rfl)) (.sc _ rfl)⟩
      ·intro bt cs he; cases he
      ·intro ro g0 sz0 e0 xs0 heq
       injection heq with a1 a2 a3 a4 a5
       subst a1 a2 a3 a4 a5
       refine ⟨rfl, _, ((hEx.take off).append hE').append (hEx.drop (off + (ys.take (min ys.length len)).length)), ?_⟩
       simp only [List.toList_toArray, Nat.mul_one, hyl]
       have hvt : vs.take off = cur.toList.take off := by rw [← htk, List.take_take, Nat.min_eq_left (by omega)]
       have hvd : vs.drop (off + min ys.length len) = (cur.toList.drop (off + min ys.length len)).take (vs.length - (off + min ys.length len)) := by
        conv => lhs; rw [← htk]
        rw [List.drop_take]
       have hlA : (cur.toList.take off ++ us.take (min ys.length len)).length = off + min ys.length len := by simp; omega
       have hlen2 : (vs.take off ++ us.take (min ys.length len) ++ vs.drop (off + min ys.length len)).length = off + min ys.length len + (vs.length - (off + min ys.length len)) := by simp; omega
       rw [hlen2, hvt, hvd, List.take_append, List.take_of_length_le (by omega), hlA, Nat.add_sub_cancel_left]
    ·cases h
   ·cases h
  ·cases h
 ·cases h
theorem repE_sc {c : Ctx} : ∀ (vs : List Value), vs.all isSc = true → RepE c 1 (vs.map .sc) vs
 | [], _ => .nil 1
 | v :: vs, h => by
  simp only [List.all_cons, Bool.and_eq_true] at h
  have := RepE.cons (c := c) 1 (.sc v) v (vs.map .sc) vs (.sc v h.1) rfl (by simp [closed, h.1]) (repE_sc vs h.2)
  rw [isSc_cells h.1] at this
  exact this
theorem bytesT_rep (c : Ctx) (s : ByteArray) : RepE c 1 (bytesT s) (s.data.toList.map fun b => .int .u8 b.toNat) := by
 have := repE_sc (c := c) (s.data.toList.map fun b => Value.int .u8 b.toNat) (List.all_eq_true.2 (by intro v hv; obtain ⟨b, _, rfl⟩ := List.mem_map.1 hv; rfl))
 simpa [bytesT, Function.comp_def] using this
theorem bytesV_rep {c : Ctx} : ∀ (xs : List T) {bs : List UInt8} {us : List Value}, bytesV xs = some bs → RepE c 1 xs us → ∃ ns : List Int, us = ns.map (Value.int .u8) ∧ bs = ns.map fun n => UInt8.ofNat n.toNat
 | [], bs, us, h, hE => by
  simp only [bytesV, Option.some.injEq] at h; subst h
  cases hE
  exact ⟨[], rfl, rfl⟩
 | x :: xs, bs, us, h, hE => by
  cases hE with
  | cons _ _ v _ ws hx hl hcl hr =>
   cases x with
   | sc v' =>
    obtain rfl := hx.scv
    cases v with
    | int k n =>
     cases k <;> simp [bytesV] at h
     obtain ⟨bs', hb, rfl⟩ := h
     obtain ⟨ns, rfl, rfl⟩ := bytesV_rep xs hb hr
     exact ⟨n :: ns, by simp [Value.cells], rfl⟩
    | _ => simp [bytesV] at h
   | _ => simp [bytesV] at h
theorem foldl_push (ns : List Int) : ∀ s : ByteArray, ns.foldl (fun r n => r.push (UInt8.ofNat n.toNat)) s = ⟨(s.data.toList ++ ns.map fun n => UInt8.ofNat n.toNat).toArray⟩ := by
 induction ns with
 | nil => intro s; simp
 | cons n ns ih => intro s; rw [List.foldl_cons, ih]; simp [ByteArray.push]
theorem RepL.len {c : Ctx} : ∀ {ts : List T} {vs : List Value}, RepL c ts vs → vs.length = ts.length
 | _, _, .nil => rfl
 | _, _, .cons x v xs vs h hr => by simp [RepL.len hr]
theorem convT_sound {P : Program} {L : Nat} {c : Ctx} (hR : Rel c) (hL : ∀ l, c.D l → l.1 ≤ L) {src dst : TypeId} {x : T} {xv : Value} {re : Res} (h : convT P c.S src dst x = some re) (hx : Rep c x xv) :
  ∃ v c', (convert src dst xv).run P c.w = .ok v c'.w ∧ Stp L c re.S re.t v c' := by
 unfold convT at h
 split at h
 ·rename_i e s hsrc hdst
  obtain rfl := hx.scv
  split at h
  ·rename_i he
   split at h
   ·simp only [Option.some.injEq] at h
    subst h
    have hrun := Lib.run_convert_string_bytes (P := P) c.w src dst e s hsrc hdst he
    have hw : ∀ b, b < c.w.heap.size → (Lib.bytesWorld c.w e s).heap[b]? = c.w.heap[b]? := fun b hb => Lib.bytesWorld_at_old c.w e s b hb
    have hsz := Lib.bytesWorld_size c.w e s
    have hcalm : Calm c.w (Lib.bytesWorld c.w e s) := by
     unfold Lib.bytesWorld World.freeze
     split <;> exact ⟨rfl, rfl, rfl⟩
    refine ⟨_, ctxSh c c.w.heap.size (Lib.bytesWorld c.w e s), hrun, ctxSh_rel hR hw (by omega), ctxSh_kept hR hw, ctxSh_fr hcalm hw (by omega), rfl, ?_, hL, fun _ h => .inl h, fun h => h⟩
    have hE := bytesT_rep (ctxSh c c.w.heap.size (Lib.bytesWorld c.w e s)) s
    have hlen : (bytesT s).length = s.size := by simp [bytesT]
    have := Rep.lst (c := ctxSh c c.w.heap.size (Lib.bytesWorld c.w e s)) 1 (bytesT s) c.w.heap.size 0 (grownCap c.w s.size 0 e) _ (.inr rfl) hE (fun i v hi => by
     rw [List.getElem?_map] at hi
     cases hb : s.data.toList[i]? with
     | none => simp [hb] at hi
     | some b =>
      simp only [hb, Option.map_some, Option.some.injEq] at hi
      subst hi
      have hi' : i < s.size := by have := (List.getElem?_eq_some_iff.1 hb).1; simpa using this
      rw [Nat.zero_add]
      show (Lib.bytesWorld c.w e s).cell? _ = _
      rw [Lib.bytesWorld_cell c.w e s i hi', List.getD_eq_getElem?_getD, hb]
      rfl) (by rw [hlen]; exact grownCap_ge _ _ _ _)
    rw [hlen] at this
    exact this
   ·cases h
  ·cases h
 ·rename_i x' e hsrc hdst
  split at h
  ·rename_i xs f he hel
   cases hb : bytesV xs with
   | none => simp [hb] at h
   | some bs =>
    simp only [hb, Option.map_some, Option.some.injEq] at h
    subst h
    obtain ⟨A, n, cap, rfl, rfl, hsn, hys, hys2⟩ := elemsOf_rep hR hel hx
    obtain ⟨us, hE⟩ := hys2 1 rfl
    refine ⟨.string ⟨bs.toArray⟩, c, ?_, .same hR hL (.sc _ rfl)⟩
    rw [run_convert_bytes_string c.w src dst e A xs.length cap hsrc he hdst]
    by_cases hne : xs = []
    ·subst hne
     simp only [bytesV, Option.some.injEq] at hb
     subst hb
     cases A with
     | none => simp [Conv.bytesToString]; rfl
     | some ad =>
      exact (run_bytesToString c.w ad 0 cap [] (by simp [loadCells, loadCellsFrom])).trans rfl
    ·obtain ⟨sz, us', b, o, hs', hE', rfl, hcl⟩ := hys hne
     cases hs'
     obtain ⟨ns, rfl, rfl⟩ := bytesV_rep xs hb hE'
     have hl := hE'.length
     simp only [List.length_map, Nat.mul_one] at hl
     have hld := run_loadCells_list (P := P) (w := c.w) ⟨b, o, none⟩ (ns.map (Value.int .u8)) (fun j v hj => by rw [add_addr]; exact hcl j v hj)
     rw [List.length_map, hl] at hld
     rw [run_bytesToString c.w ⟨b, o, none⟩ xs.length cap ns hld, foldl_push]
     rfl
  ·cases h
 ·rename_i t l off hsrc hdst
  split at h
  ·rename_i bt cs n hS hn
   split at h
   ·rename_i hc
    simp only [Option.some.injEq] at h
    subst h
    obtain ⟨j, hj, rfl⟩ := szOf_info hn
    have hx' := hx
    cases hx with
    | ptr _ _ hb =>
     obtain ⟨_, vs, hw, hl⟩ := hR.box l _ _ hb.1 hS
     have hlen := hl.len
     exact ⟨_, c, Lib.run_to_unsafe c.w ⟨c.β l, off, none⟩ hsrc hdst hj hc.1 (e := bt) (cells := vs.length) (by simp [World.shape?, hw]) (by show off < _; omega), .same hR hL hx'⟩
   ·cases h
  ·cases h
 ·rename_i u l off hsrc hdst
  split at h
  ·rename_i bt cs n hS hn
   split at h
   ·rename_i hc
    simp only [Option.some.injEq] at h
    subst h
    obtain ⟨j, hj, rfl⟩ := szOf_info hn
    have hx' := hx
    cases hx with
    | ptr _ _ hb =>
     obtain ⟨_, vs, hw, hl⟩ := hR.box l _ _ hb.1 hS
     have hlen := hl.len
     exact ⟨_, c, Lib.run_from_unsafe c.w ⟨c.β l, off, none⟩ hsrc hdst hj (e := bt) (cells := vs.length) (by simp [World.shape?, hw]) (by rw [hlen]; exact hc), .same hR hL hx'⟩
   ·cases h
  ·cases h
 ·cases h
theorem appendZ_sound {P : Program} {L : Nat} {c : Ctx} (hR : Rel c) (hL : ∀ l, c.D l → l.1 ≤ L) {d : Option Tmp} {t u ty : TypeId} {x : T} {k : IntKind} {n : Int} {xv : Value} {re : Res}
  (h : appendZ P L d c.S t u x n = some re) (hx : Rep c x xv) :
  ∃ v c', (Builtin.append_ #[t, u] ty #[xv, .int k n]).run P c.w = .ok v c'.w ∧ Stp L c re.S re.t v c' := by
 unfold appendZ at h
 split at h
 ·rename_i kn e sz hun he
  obtain ⟨hu, hsz⟩ := elemT_slice he
  split at h
  ·rename_i z m cp hz
   obtain rfl := hx.scv
   cases hx with
   | sc _ hsc =>
    simp only [isSc, Bool.and_eq_true, beq_iff_eq] at hsc
    obtain ⟨rfl, rfl⟩ := hsc
    split at h
    ·rename_i hb
     obtain ⟨h0, hm⟩ := hb
     simp only [maxRow] at hm
     obtain ⟨i, zv, v, hi, hzv, hzs, his, hpos, hby, hrep, hcells, hlen, hcl⟩ := zeroT_info hz hsz c
     obtain ⟨n, rfl⟩ : ∃ m : Nat, n = m := ⟨n.toNat, by omega⟩
     rw [Int.toNat_natCast] at h
     have hby' : n * i.bytes ≤ 140737488355328 := by
      have : n * i.bytes ≤ 1000000000 * 1000 := Nat.mul_le_mul (by omega) hby
      omega
     have hrun := Lib.run_append_nil_zeros (P := P) c.w t u ty e i zv k kn hu hun hi hzv n (by omega) (by omega) (by omega) (by omega)
     have hge := grownCap_ge c.w n 0 e
     have hE := repE_replicate hrep hlen hcl n
     have hEl := hE.length
     have hz0 : (Builtin.zeroCells zv.cells n).toList = (List.replicate n zv.cells.toList).flatten := zeroCells_rep zv.cells n (by omega)
     obtain ⟨c', hw, hst⟩ := newArr_sound (cur := Builtin.zeroCells zv.cells n ++ Builtin.zeroCells zv.cells (grownCap c.w n 0 e - n)) (cap := grownCap c.w n 0 e) hR hL h hE
      (w' := c.w.drew.alloc (.cells (Builtin.zeroCells zv.cells n ++ Builtin.zeroCells zv.cells (grownCap c.w n 0 e - n)) e)) (calm_drew_alloc _ _)
      (fun b hb => World.alloc_old (w := c.w.drew) hb) (by show _ ≤ (c.w.heap.push _).size; simp) (World.alloc_new c.w.drew _) (by
       rw [hcells]
       simp only [Array.toList_append, hz0]
       exact List.take_left) (by simp; exact hge) (by
       simp only [Array.size_append, size_zeroCells, hzs, ← Nat.add_mul]
       rw [Nat.add_sub_cancel' hge]; exact Nat.le_refl _)
     rw [List.length_replicate] at hst
     exact ⟨_, c', by rw [hw]; exact hrun, hst⟩
    ·cases h
  ·cases h
 ·cases h
theorem appendS_sound {P : Program} {om : FuncId → List Nat} {L : Nat} {c : Ctx} (hR : Rel c) (hL : ∀ l, c.D l → l.1 ≤ L) {d : Option Tmp} {t u ty : TypeId} {x : T} {b : ByteArray} {xv : Value} {re : Res}
  (h : appendS P om L d c.S t u x b = some re) (hx : Rep c x xv) :
  ∃ v c', (Builtin.append_ #[t, u] ty #[xv, .string b]).run P c.w = .ok v c'.w ∧ Stp L c re.S re.t v c' := by
 unfold appendS at h
 split at h
 ·rename_i e0 hu he0
  refine appendC_sound hR hL h hx fun e sz sy ys fy he hel hsy => ?_
  rw [he0] at he
  simp only [Option.some.injEq, Prod.mk.injEq] at he
  obtain ⟨rfl, rfl⟩ := he
  simp only [elemsOf, Option.some.injEq, Prod.mk.injEq] at hel
  obtain ⟨rfl, rfl, rfl⟩ := hel
  have hs := Src.ofString (P := P) c.w hu b
  have hlen : (bytesT b).length = b.size := by simp [bytesT]
  exact ⟨_, by rw [hlen]; exact hs, bytesT_rep c b⟩
 ·cases h
theorem ptrEq_run {P : Program} {c : Ctx} {tp te : TypeId} (hp : P.underlying tp = some (.pointer te)) (hte : (P.info? te).isSome = true) {x y : T} {r : Bool} {xv yv : Value} (h : ptrEq x y = some r) (hx : Rep c x xv) (hy : Rep c y yv) (d : Nat) (w : World) :
  (Op.equalIn (d + 1) tp xv yv).run P w = .ok r w := by
 obtain ⟨j, hj⟩ := Option.isSome_iff_exists.1 hte
 unfold ptrEq at h
 split at h
 ·split at h
  ·rename_i hl
   obtain ⟨rfl, rfl⟩ := hl
   cases h
   cases hx; cases hy
   simp [Op.equalIn, run_underlying hp, sizeOf, typeInfo, hj, run_sameAddr_same]
  ·cases h
 ·cases h; cases hx; cases hy; simp [Op.equalIn, run_underlying hp]
 ·cases h; cases hx; cases hy; simp [Op.equalIn, run_underlying hp]
 ·cases h; cases hx; cases hy; simp [Op.equalIn, run_underlying hp]
 ·cases h; cases hx; cases hy; simp [Op.equalIn, run_underlying hp]
 ·cases h
theorem peqT_run {P : Program} {c : Ctx} {op : BinOp} {t : TypeId} {x y : T} {r : Bool} {xv yv : Value} (h : peqT P op t x y = some r) (hx : Rep c x xv) (hy : Rep c y yv) (xo yo : Operand) (w : World) :
  (do eqGuard op t xo yo xv yv; binOp op t xv yv : Sem Value).run P w = .ok (.bool r) w := by
 unfold peqT at h
 split at h
 ·rename_i e hp
  split at h
  ·rename_i hi
   have hg : ∃ p q, xv = .pointer p ∧ yv = .pointer q := by
    have : (ptrEq x y).isSome = true := by
     cases op <;> simp only at h <;> first | (rw [h]; rfl) | (cases hq : ptrEq x y <;> simp [hq] at h ⊢; done) | (cases h; done)
    unfold ptrEq at this
    split at this <;> first | (cases this; done) | (cases hx; cases hy; exact ⟨_, _, rfl, rfl⟩)
   obtain ⟨p, q, rfl, rfl⟩ := hg
   have hgd : (eqGuard op t xo yo (.pointer p) (.pointer q)).run P w = .ok () w := by unfold eqGuard; cases op <;> rfl
   cases op <;> simp only at h <;> try cases h
   ·have := ptrEq_run hp hi h hx hy 9999 w
    simp [Sem.run_bind, hgd, Result.andThen, binOp, Op.equal, Op.maxDepth, this]
   ·cases hq : ptrEq x y with
    | none => simp [hq] at h
    | some b =>
     simp only [hq, Option.map_some, Option.some.injEq] at h
     subst h
     have := ptrEq_run hp hi hq hx hy 9999 w
     simp [Sem.run_bind, hgd, Result.andThen, binOp, Op.equal, Op.maxDepth, this]
  ·cases h
 ·cases h
theorem find_noEsc {fn : Func} (h : fn.name = "internal/abi.NoEscape") : Extern.find fn = some Extern.AbiNoEscape.same := by
 have h1 : Extern.allGenericRows.lookup "internal/abi.NoEscape" = none := by rfl
 have h2 : Extern.allTypedRows.lookup "internal/abi.NoEscape" = none := by rfl
 have h3 : Extern.allRows.lookup "internal/abi.NoEscape" = some Extern.AbiNoEscape.same := by rfl
 unfold Extern.find
 simp only [h, h1, h2, h3]
 rfl
theorem noEsc_run {P : Program} {g : FuncId} {f0 c0 : Array Value} (h : isNoEsc P (.sc (.func (.func g) f0 c0)) = true) (v : Value) (w : World) : (callFunc g #[v]).run P w = .ok (.value v) w := by
 unfold isNoEsc at h
 simp only at h
 split at h
 ·rename_i fn hf
  simp only [Bool.and_eq_true, beq_iff_eq, Option.isNone_iff_eq_none] at h
  obtain ⟨⟨⟨h1, h2⟩, h3⟩, h4⟩ := h
  rw [run_callFunc_extern hf (by rw [h2]; rfl) (by rw [h1]; rfl) (by unfold Extern.findNext; simp only [h3, h4]; rfl) (find_noEsc h2)]
  rfl
 ·cases h
theorem usdT_sound {P : Program} {L : Nat} {c : Ctx} (hR : Rel c) (hL : ∀ l, c.D l → l.1 ≤ L) {ts : Array TypeId} {ty : TypeId} {x t : T} {xv : Value} (h : usdT c.S x = some t) (hx : Rep c x xv) :
  ∃ v, (Builtin.unsafeSliceData_ ts ty #[xv]).run P c.w = .ok v c.w ∧ Stp L c c.S t v c := by
 unfold usdT at h
 split at h
 ·rename_i l g off len
  split at h
  ·rename_i ro g' sz e xs hS
   split at h
   ·rename_i hc
    obtain ⟨rfl, hlen⟩ := hc
    simp only [Option.some.injEq] at h
    subst h
    cases hx with
    | own _ _ _ _ A cap ho =>
     have ho' := ho
     simp only [OwnOk, hS] at ho'
     obtain ⟨hD, h1, h2, h3⟩ := ho'.2 trivial
     obtain ⟨cur, fz, rfl, _, _⟩ := h3.resolve_left (by omega)
     refine ⟨_, Lib.run_unsafeSliceData_row c.w ts ty _ len cap (by omega), .same hR hL (.aptr _ _ _ _ _ ?_)⟩
     simp only [AptrOk, hS]
     exact ⟨Nat.le_refl _, fun _ => ⟨hD, by omega, by simp⟩⟩
   ·cases h
  ·cases h
 ·rename_i n cp
  simp only [Option.some.injEq] at h
  subst h
  obtain rfl := hx.scv
  exact ⟨_, Lib.run_unsafeSliceData_nil c.w ts ty _ _, .same hR hL (.sc _ rfl)⟩
 ·cases h
def ctxFz (c : Ctx) (l : Loc) (w' : World) : Ctx := { S := setRo c.S [l], D := c.D, β := c.β, Sh := fun b => c.Sh b ∨ b = c.β l, w := w' }
theorem ctxFz_mut {c : Ctx} {l : Loc} {w' : World} {g sz : Nat} {e : TypeId} {xs : List T} (hS : c.S l = some (.arr false g sz e xs)) {m : Loc} (h : Mut (ctxFz c l w') m) : Mut c m ∧ m ≠ l := by
 have := ctxShut_mut (c := c) (ls := [l]) (l := m) h
 refine ⟨this.1, ?_⟩
 rintro rfl
 exact this.2 (by simp) _ _ _ _ _ hS
section
variable {c : Ctx} {l : Loc} {g sz : Nat} {e : TypeId} {xs : List T} {w' : World} {cur : Array Value} {fz1 : Nat × Nat}
theorem ctxFz_kept (hR : Rel c) (hD : c.D l) (hS : c.S l = some (.arr false g sz e xs)) (hold : c.w.heap[c.β l]? = some (.cells cur e (0, 0))) (hnew : w'.heap[c.β l]? = some (.cells cur e fz1))
  (hoth : ∀ b, b ≠ c.β l → w'.heap[b]? = c.w.heap[b]?) : Kept c (ctxFz c l w') := by
 have hm : Mut c l := by simp [Mut, hS]
 refine ⟨fun b hb => ⟨.inl hb, hoth b fun hq => hR.nsh l hD hm (hq ▸ hb)⟩, fun m hl => ⟨⟨hl.1, ?_⟩, rfl⟩, fun m ro g1 sz1 e1 xs1 hS1 => .inr ⟨_, g1, sz1, e1, xs1, setRo_arr hS1, Nat.le_refl _, fun _ => ⟨rfl, rfl, rfl, fun hD1 => ⟨hD1, rfl, fun cur1 fz h => ?_⟩⟩⟩, fun m hg => ?_⟩
 ·obtain ⟨bt, cs, h⟩ := hl.2
  exact ⟨bt, cs, by simp [ctxFz, setRo, h]⟩
 ·by_cases hq : c.β m = c.β l
  ·rw [hq, hold] at h
   simp only [Option.some.injEq, Obj.cells.injEq] at h
   obtain ⟨rfl, rfl, _⟩ := h
   exact ⟨cur, fz1, by show w'.heap[_]? = _; rw [hq]; exact hnew, rfl⟩
  ·exact ⟨cur1, fz, (hoth _ hq).trans h, rfl⟩
 ·simp [ctxFz, setRo, hg]
theorem ctxFz_rel (hR : Rel c) (hD : c.D l) (hS : c.S l = some (.arr false g sz e xs)) (hold : c.w.heap[c.β l]? = some (.cells cur e (0, 0))) (hnew : w'.heap[c.β l]? = some (.cells cur e fz1))
  (hoth : ∀ b, b ≠ c.β l → w'.heap[b]? = c.w.heap[b]?) (hsz : c.w.heap.size ≤ w'.heap.size) : Rel (ctxFz c l w') := by
 have hk := ctxFz_kept hR hD hS hold hnew hoth
 have hm : Mut c l := by simp [Mut, hS]
 have ne : ∀ m, c.D m → Mut c m → m ≠ l → c.β m ≠ c.β l := fun m hDm hmm hne hq => hne (hR.inj m l hDm hD hmm hm hq)
 refine ⟨fun m bt cs hDm hSm => ?_, fun m ro g1 sz1 e1 xs1 hDm hSm => ?_, fun m hDm hmm => ?_, fun m m' hDm hDm' hmm hmm' hβ => hR.inj m m' hDm hDm' (ctxFz_mut hS hmm).1 (ctxFz_mut hS hmm').1 hβ, fun b hb => ?_, fun m hDm hSm => hR.dom m hDm (setRo_none.1 hSm)⟩
 ·have hSm' : c.S m = some (.box bt cs) := by
   rcases setRo_inv hSm with ⟨ro, g, sz, e, xs, h1, h2⟩ | ⟨h1, h2⟩
   ·cases h2
   ·exact h1
  obtain ⟨h1, vs, h3, h4⟩ := hR.box m bt cs hDm hSm'
  exact ⟨h1, vs, (hoth _ (ne m hDm (by simp [Mut, hSm']) (by rintro rfl; rw [hS] at hSm'; cases hSm'))).trans h3, h4.kept hk⟩
 ·rcases setRo_inv hSm with ⟨ro1, g2, sz2, e2, xs2, h1, h2⟩ | ⟨h1, h2⟩
  ·injection h2 with a1 a2 a3 a4 a5
   subst a2 a3 a4 a5
   obtain ⟨cur1, fz, vs, b1, b2, b3, b4, b5⟩ := hR.arr m _ _ _ _ _ hDm h1
   by_cases hml : m = l
   ·subst hml
    rw [hold] at b1
    simp only [Option.some.injEq, Obj.cells.injEq] at b1
    obtain ⟨rfl, rfl, rfl⟩ := b1
    exact ⟨cur, fz1, vs, hnew, fun h => by subst a1; simp at h, fun _ => .inr rfl, b4.kept hk, b5⟩
   ·have hne : c.β m ≠ c.β l := by
     cases ro1 with
     | false => exact ne m hDm (by simp [Mut, h1]) hml
     | true => exact fun hq => hR.nsh l hD hm (hq ▸ b3 rfl)
    refine ⟨cur1, fz, vs, (hoth _ hne).trans b1, fun h => b2 ?_, fun h => .inl (b3 ?_), b4.kept hk, b5⟩
    ·subst a1; simpa [hml] using h
    ·subst a1; simpa [hml] using h
  ·exact absurd rfl (h2 _ _ _ _ _)
 ·obtain ⟨h1, h2⟩ := ctxFz_mut hS hmm
  rintro (h | h)
  ·exact hR.nsh m hDm h1 h
  ·exact ne m hDm h1 h2 h
 ·rcases hb with hb | rfl
  ·exact Nat.lt_of_lt_of_le (hR.lt b hb) hsz
  ·exact Nat.lt_of_lt_of_le (lt_of_get hold) hsz
theorem ctxFz_fr (hR : Rel c) (hD : c.D l) (hS : c.S l = some (.arr false g sz e xs)) (hc : Calm c.w w') (hoth : ∀ b, b ≠ c.β l → w'.heap[b]? = c.w.heap[b]?) (hsz : c.w.heap.size ≤ w'.heap.size) : Fr c (ctxFz c l w') := by
 have hm : Mut c l := by simp [Mut, hS]
 refine ⟨hc.os, hc.tape, hc.output, hsz, fun b _ hn => hoth b fun hq => hn l hD hm hq.symm, fun m hDm hmm => .inl ⟨hDm, (ctxFz_mut hS hmm).1, rfl⟩, fun b hb => ?_⟩
 rcases hb with hb | rfl
 ·exact .inl hb
 ·exact .inr (.inr ⟨l, hD, hm, rfl⟩)
end
theorem bytesS_rep {c : Ctx} : ∀ (xs : List T) {bs : List UInt8} {us : List Value}, bytesV xs = some bs → xs.all isByte = true → RepE c 1 xs us → us = bs.map fun x => Value.int .u8 x.toNat
 | [], bs, us, h, _, hE => by
  simp only [bytesV, Option.some.injEq] at h; subst h
  cases hE
  rfl
 | x :: xs, bs, us, h, ha, hE => by
  cases hE with
  | cons _ _ v _ ws hx hl hcl hr =>
   cases x with
   | sc v' =>
    obtain rfl := hx.scv
    cases v with
    | int k n =>
     cases k <;> simp [bytesV] at h
     obtain ⟨bs', hb, rfl⟩ := h
     simp only [List.all_cons, Bool.and_eq_true, isByte, decide_eq_true_eq] at ha
     rw [bytesS_rep xs hb ha.2 hr]
     have : ((UInt8.ofNat n.toNat).toNat : Int) = n := by
      rw [UInt8.toNat_ofNat']
      omega
     rw [List.map_cons, this]
     rfl
    | _ => simp [bytesV] at h
   | _ => simp [bytesV] at h
theorem ustrT_sound {P : Program} {L : Nat} {c : Ctx} (hR : Rel c) (hL : ∀ l, c.D l → l.1 ≤ L) {pt it ty : TypeId} {p n t : T} {S' : Store} {pv nv : Value} (h : ustrT P c.S pt p n = some (t, S')) (hp : Rep c p pv) (hn : Rep c n nv) :
  ∃ v c', (Builtin.unsafeString_ #[pt, it] ty #[pv, nv]).run P c.w = .ok v c'.w ∧ Stp L c S' t v c' := by
 unfold ustrT at h
 split at h
 ·rename_i n
  split at h
  ·rename_i h0
   simp only [Option.some.injEq, Prod.mk.injEq] at h
   obtain ⟨rfl, rfl⟩ := h
   subst h0
   obtain rfl := hp.scv
   obtain rfl := hn.scv
   exact ⟨_, c, Lib.run_unsafeString_none c.w _ _ _ none, .same hR hL (.sc _ rfl)⟩
  ·cases h
 ·rename_i l g i off n
  split at h
  ·rename_i e ro g' sz e' xs hu hS
   split at h
   ·rename_i hc
    obtain ⟨rfl, rfl, rfl, rfl, rfl, rfl, hco, hn0, hnl, hnm, hall⟩ := hc
    simp only [Option.map_eq_some_iff, Prod.mk.injEq] at h
    obtain ⟨bs, hbs, rfl, rfl⟩ := h
    obtain rfl := hn.scv
    cases hp with
    | aptr _ _ _ _ q ho =>
     simp only [AptrOk, hS] at ho
     obtain ⟨hD, hi, rfl⟩ := ho.2 trivial
     obtain ⟨cur, fz, vs, hw, hfz, _, hE, htk⟩ := hR.arr l _ _ _ _ _ hD hS
     obtain rfl := hfz rfl
     have hE2 := hE.take n.toNat
     have hus := bytesS_rep _ hbs hall hE2
     have hvl := hE.length
     have hbl : bs.length = n.toNat := by
      have := congrArg List.length hus
      rw [hE2.length] at this
      simp only [List.length_map, List.length_take] at this
      omega
     have hcur : vs.length ≤ cur.size := by
      have := congrArg List.length htk
      simp only [List.length_take, Array.length_toList] at this
      omega
     have hrun := Lib.run_unsafeString_row (P := P) c.w pt it ty e' hu hco (c.β l) cur.size (by simp [World.shape?, hw]) bs (by intro h; subst h; simp at hbl; omega) (by omega) (by omega) (fun j x hj => by
      rw [add_addr, Nat.zero_add, cell_at hw, ← Array.getElem?_toList]
      refine take_get htk ?_
      have h1 : (vs.take (n.toNat * 1))[j]? = some (.int .u8 x.toNat) := by rw [hus, List.getElem?_map, hj]; rfl
      rw [List.getElem?_take] at h1
      split at h1
      ·exact h1
      ·cases h1)
     have hlen : (bs.length : Int) = n := by omega
     rw [hlen] at hrun
     have hne : bs.length ≠ 0 := by omega
     have hnew : (c.w.freeze ⟨c.β l, 0, none⟩ bs.length).heap[c.β l]? = some (.cells cur e' (0, 0 + bs.length)) := by simp [World.freeze, hne, Array.getElem?_modify, hw]
     have hoth : ∀ b, b ≠ c.β l → (c.w.freeze ⟨c.β l, 0, none⟩ bs.length).heap[b]? = c.w.heap[b]? := fun b hb => by simp [World.freeze, hne, Array.getElem?_modify, Ne.symm hb]
     have hsz : (c.w.freeze ⟨c.β l, 0, none⟩ bs.length).heap.size = c.w.heap.size := by simp [World.freeze, hne]
     have hcalm : Calm c.w (c.w.freeze ⟨c.β l, 0, none⟩ bs.length) := by unfold World.freeze; split <;> exact ⟨rfl, rfl, rfl⟩
     refine ⟨_, ctxFz c l (c.w.freeze ⟨c.β l, 0, none⟩ bs.length), by simp only [Nat.zero_mul, Nat.add_zero]; exact hrun, ctxFz_rel hR hD hS hw hnew hoth (by omega), ctxFz_kept hR hD hS hw hnew hoth, ctxFz_fr hR hD hS hcalm hoth (by omega), rfl, .sc _ rfl, hL, fun _ h => .inl h,
      fun hf m hm => hf m fun h0 => hm (setRo_none.2 h0)⟩
   ·cases h
  ·cases h
 ·cases h
end Go.TM
namespace Go.TM
open Go
structure Move (c c' : Ctx) (f : Loc → Option Loc) (z : Loc → Bool) : Prop where
 w : c'.w = c.w
 arr : ∀ l m, f l = some m → z l = true → ∀ ro g sz e xs, c.S l = some (.arr ro g sz e xs) → c'.S m = some (.arr ro 0 sz e xs)
 box : ∀ l m, f l = some m → z l = true → ∀ bt cs, c.S l = some (.box bt cs) → ∃ bt' ds, c'.S m = some (.box bt' ds)
 gone : ∀ l m, f l = some m → z l = true → c.S l = some .gone → c'.S m = some .gone
 at_ : ∀ l m, f l = some m → z l = true → c.D l → c'.D m ∧ c'.β m = c.β l
 low : ∀ l, z l = false → c.S l ≠ none → f l = some l ∧ c'.S l = c.S l ∧ (c.D l → c'.D l ∧ c'.β l = c.β l)
theorem OwnOk.cur {c : Ctx} {l : Loc} {g off len : Nat} {A : Option Addr} {cap : Nat} (h : OwnOk c l g off len A cap) : c.S l ≠ none := by
 intro h0; simp [OwnOk, h0] at h
theorem OwnOk.same {c c' : Ctx} {l : Loc} {g off len : Nat} {A : Option Addr} {cap : Nat} (h : OwnOk c l g off len A cap) (hS : c'.S l = c.S l) (hD : c.D l → c'.D l ∧ c'.β l = c.β l) (hw : c'.w = c.w) :
  OwnOk c' l g off len A cap := by
 unfold OwnOk at h ⊢
 rw [hS]
 cases ho : c.S l with
 | none => simp [ho] at h
 | some o =>
  cases o with
  | box bt cs => simp [ho] at h
  | gone => trivial
  | arr ro g0 sz e xs =>
   simp only [ho] at h ⊢
   refine ⟨h.1, fun hg => ?_⟩
   obtain ⟨h1, h2, h3, h4⟩ := h.2 hg
   refine ⟨(hD h1).1, h2, h3, ?_⟩
   rw [(hD h1).2, hw]
   exact h4
theorem AptrOk.cur {c : Ctx} {l : Loc} {g i off : Nat} {p : Addr} (h : AptrOk c l g i off p) : c.S l ≠ none := by
 intro h0; simp [AptrOk, h0] at h
theorem AptrOk.same {c c' : Ctx} {l : Loc} {g i off : Nat} {p : Addr} (h : AptrOk c l g i off p) (hS : c'.S l = c.S l) (hD : c.D l → c'.D l ∧ c'.β l = c.β l) : AptrOk c' l g i off p := by
 unfold AptrOk at h ⊢
 rw [hS]
 cases ho : c.S l with
 | none => simp [ho] at h
 | some o =>
  cases o with
  | box bt cs => simp [ho] at h
  | gone => trivial
  | arr ro g0 sz e xs =>
   simp only [ho] at h ⊢
   refine ⟨h.1, fun hg => ?_⟩
   obtain ⟨h1, h2, h3⟩ := h.2 hg
   exact ⟨(hD h1).1, h2, by rw [(hD h1).2]; exact h3⟩
mutual
theorem nolst_rep {c c' : Ctx} {t : T} {v : Value} (hc : closed t = true) (hl : hasLst t = false) : Rep c t v → Rep c' t v
 | .undef v => .undef v
 | .sc v hv => .sc v hv
 | .lst0 sz A cap => .lst0 sz A cap
 | .lst sz [] b o cap vs hs hE hcc hcap => .lst0 sz _ cap
 | .lst sz (x :: xs) b o cap vs hs hE hcc hcap => by simp [hasLst] at hl
 | .own l g off len A cap ho => by simp [closed] at hc
 | .ptr l off hb => by simp [closed] at hc
 | .lptr sz xs i off b o vs hs hE hcc => by simp [closed] at hc
 | .aptr l g i off p ho => by simp [closed] at hc
 | .clo f cs vs h _ => by simp [closed] at hc
 | .mth f cs vs h => by simp [closed] at hc
 | .agg cs vs h => .agg cs vs (nolstL_rep (by simp only [closed, Bool.and_eq_true] at hc; exact hc.1) (by simpa [hasLst] using hl) h)
 | .tup cs vs h => by simp [closed] at hc
theorem nolstL_rep {c c' : Ctx} {ts : List T} {vs : List Value} (hc : closedL ts = true) (hl : hasLstL ts = false) : RepL c ts vs → RepL c' ts vs
 | .nil => .nil
 | .cons x v xs vs hx hr => .cons x v xs vs (nolst_rep (by simp only [closedL, Bool.and_eq_true] at hc; exact hc.1) (by simp only [hasLstL, Bool.or_eq_false_iff] at hl; exact hl.1) hx)
   (nolstL_rep (by simp only [closedL, Bool.and_eq_true] at hc; exact hc.2) (by simp only [hasLstL, Bool.or_eq_false_iff] at hl; exact hl.2) hr)
end
theorem nolstE_rep {c c' : Ctx} {sz : Nat} {xs : List T} {vs : List Value} (hl : hasLstL xs = false) : RepE c sz xs vs → RepE c' sz xs vs
 | .nil sz => .nil sz
 | .cons sz x v xs ws h hlen hcl hr => by
  simp only [hasLstL, Bool.or_eq_false_iff] at hl
  exact .cons sz x v xs ws (nolst_rep hcl hl.1 h) hlen hcl (nolstE_rep hl.2 hr)
def ShGo (c c' : Ctx) (b : Bool) : Prop := (∀ x, c.Sh x → c'.Sh x) ∨ b = false
theorem repE_go {c c' : Ctx} (hw : c'.w = c.w) {sz : Nat} {xs : List T} {vs : List Value} (hs : ShGo c c' (hasLstL xs)) (h : RepE c sz xs vs) : RepE c' sz xs vs := by
 rcases hs with hs | hs
 ·exact repE_kept (fun b hb => ⟨hs b hb, by rw [hw]⟩) h
 ·exact nolstE_rep hs h
mutual
theorem rename_rep {c c' : Ctx} {f : Loc → Option Loc} {z : Loc → Bool} (hm : Move c c' f z) : ∀ (t : T) {v : Value}, ShGo c c' (hasLst t) → Rep c t v → Rep c' (rename c.S f z t) v
 | .undef, v, hs, h => .undef v
 | .sc x, v, hs, h => by cases h with | sc _ hv => exact .sc _ hv
 | .lst sz xs, v, hs, h => by
  simp only [rename]
  cases h with
  | lst0 _ A cap => exact .lst0 sz A cap
  | lst _ _ b o cap vs hsb hE hc hcap =>
   cases xs with
   | nil => exact .lst0 sz _ cap
   | cons x xs =>
    have hgo := hs.resolve_right (by simp [hasLst])
    exact .lst sz _ b o cap vs (hgo b hsb) (repE_kept (fun x hx => ⟨hgo x hx, by rw [hm.w]⟩) hE) (by rw [hm.w]; exact hc) hcap
 | .own l g off len, v, hs, h => by
  cases h with
  | own _ _ _ _ A cap ho =>
   simp only [rename]
   cases hf : f l with
   | none => exact .undef _
   | some m =>
    simp only []
    cases hz : z l with
    | false =>
     obtain ⟨h1, h2, h3⟩ := hm.low l hz ho.cur
     rw [h1] at hf
     cases hf
     simp only [Bool.false_eq_true, if_false]
     exact .own _ _ _ _ _ _ (ho.same h2 h3 hm.w)
    | true =>
     simp only [if_true]
     cases hS : c.S l with
     | none => exact .undef _
     | some o =>
      cases o with
      | box bt cs => exact .undef _
      | gone => exact .undef _
      | arr ro g' sz e xs =>
       simp only []
       split
       ·rename_i hg
        subst hg
        refine .own _ _ _ _ _ _ ?_
        simp only [OwnOk, hS] at ho
        obtain ⟨h1, h2, h3, h4⟩ := ho.2 trivial
        obtain ⟨h5, h6⟩ := hm.at_ l m hf hz h1
        simp only [OwnOk, hm.arr l m hf hz _ _ _ _ _ hS]
        refine ⟨Nat.le_refl _, fun _ => ⟨h5, h2, h3, ?_⟩⟩
        rw [h6, hm.w]
        exact h4
       ·exact .undef _
 | .ptr l off, v, hs, h => by
  cases h with
  | ptr _ _ hb =>
   simp only [rename]
   cases hf : f l with
   | none => exact .undef _
   | some m =>
    simp only []
    obtain ⟨hD, bt, cs, hS⟩ := hb
    cases hz : z l with
    | false =>
     obtain ⟨h1, h2, h3⟩ := hm.low l hz (by rw [hS]; simp)
     rw [h1] at hf
     cases hf
     have := Rep.ptr (c := c') l off ⟨(h3 hD).1, bt, cs, by rw [h2]; exact hS⟩
     rw [(h3 hD).2] at this
     exact this
    | true =>
     obtain ⟨h5, h6⟩ := hm.at_ l m hf hz hD
     have := Rep.ptr (c := c') m off ⟨h5, hm.box l m hf hz bt cs hS⟩
     rw [h6] at this
     exact this
 | .lptr sz xs i off, v, hs, h => by
  simp only [rename]
  have hgo := hs.resolve_right (by simp [hasLst])
  cases h with
  | lptr _ _ _ _ b o vs hsb hE hc => exact .lptr sz xs i off b o vs (hgo b hsb) (repE_kept (fun x hx => ⟨hgo x hx, by rw [hm.w]⟩) hE) (by rw [hm.w]; exact hc)
 | .aptr l g i off, v, hs, h => by
  cases h with
  | aptr _ _ _ _ p ho =>
   simp only [rename]
   cases hf : f l with
   | none => exact .undef _
   | some m =>
    simp only []
    cases hz : z l with
    | false =>
     obtain ⟨h1, h2, h3⟩ := hm.low l hz ho.cur
     rw [h1] at hf
     cases hf
     simp only [Bool.false_eq_true, if_false]
     exact .aptr _ _ _ _ _ (ho.same h2 h3)
    | true =>
     simp only [if_true]
     cases hS : c.S l with
     | none => exact .undef _
     | some o =>
      cases o with
      | box bt cs => exact .undef _
      | gone => exact .undef _
      | arr ro g' sz e xs =>
       simp only []
       split
       ·rename_i hg
        subst hg
        refine .aptr _ _ _ _ _ ?_
        simp only [AptrOk, hS] at ho
        obtain ⟨h1, h2, h3⟩ := ho.2 trivial
        obtain ⟨h5, h6⟩ := hm.at_ l m hf hz h1
        simp only [AptrOk, hm.arr l m hf hz _ _ _ _ _ hS]
        exact ⟨Nat.le_refl _, fun _ => ⟨h5, h2, by rw [h6]; exact h3⟩⟩
       ·exact .undef _
 | .clo g cs, v, hs, h => by
  cases h with
  | clo _ _ vs hl hf => exact .clo _ _ _ (renameL_rep hm cs (hs.imp id (by simp [hasLst])) hl) hf
  | mth _ _ vs hl => exact .mth _ _ _ (renameL_rep hm cs (hs.imp id (by simp [hasLst])) hl)
 | .agg cs, v, hs, h => by cases h with | agg _ vs hl => exact .agg _ _ (renameL_rep hm cs (hs.imp id (by simp [hasLst])) hl)
 | .tup cs, v, hs, h => by cases h with | tup _ vs hl => exact .tup _ _ (renameL_rep hm cs (hs.imp id (by simp [hasLst])) hl)
theorem renameL_rep {c c' : Ctx} {f : Loc → Option Loc} {z : Loc → Bool} (hm : Move c c' f z) : ∀ (ts : List T) {vs : List Value}, ShGo c c' (hasLstL ts) → RepL c ts vs → RepL c' (renameL c.S f z ts) vs
 | [], vs, hs, h => by cases h; exact .nil
 | x :: xs, vs, hs, h => by
  cases h with
  | cons _ v _ vs hx hr =>
   exact .cons _ _ _ _ (rename_rep hm x (hs.imp id (by simp [hasLstL]; intro h _; exact h)) hx) (renameL_rep hm xs (hs.imp id (by simp [hasLstL])) hr)
end
mutual
theorem rename_id {S : Store} {f : Loc → Option Loc} {z : Loc → Bool} {k : Nat} (h : ∀ l : Loc, l.1 ≤ k → f l = some l ∧ z l = false) : ∀ (t : T), lvle k t = true → rename S f z t = t
 | .undef, _ => rfl
 | .sc _, _ => rfl
 | .lst .., _ => rfl
 | .lptr .., _ => rfl
 | .own l g off len, hl => by
  have := h l (by simpa [lvle] using hl)
  simp [rename, this.1, this.2]
 | .ptr l off, hl => by
  have := h l (by simpa [lvle] using hl)
  simp [rename, this.1]
 | .aptr l g i off, hl => by
  have := h l (by simpa [lvle] using hl)
  simp [rename, this.1, this.2]
 | .clo g cs, hl => by simp only [rename]; rw [renameL_id h cs (by simpa [lvle] using hl)]
 | .agg cs, hl => by simp only [rename]; rw [renameL_id h cs (by simpa [lvle] using hl)]
 | .tup cs, hl => by simp only [rename]; rw [renameL_id h cs (by simpa [lvle] using hl)]
theorem renameL_id {S : Store} {f : Loc → Option Loc} {z : Loc → Bool} {k : Nat} (h : ∀ l : Loc, l.1 ≤ k → f l = some l ∧ z l = false) : ∀ (ts : List T), lvleL k ts = true → renameL S f z ts = ts
 | [], _ => rfl
 | x :: xs, hl => by
  simp only [lvleL, Bool.and_eq_true] at hl
  simp only [renameL]
  rw [rename_id h x hl.1, renameL_id h xs hl.2]
end
mutual
theorem rename_lvle {S : Store} {f : Loc → Option Loc} {z : Loc → Bool} {k : Nat} (h : ∀ l m : Loc, f l = some m → l.1 ≤ k → m.1 ≤ k) : ∀ (t : T), lvle k t = true → lvle k (rename S f z t) = true
 | .undef, _ => rfl
 | .sc _, _ => rfl
 | .lst .., _ => rfl
 | .lptr .., _ => rfl
 | .own l g off len, hl => by
  simp only [rename]
  cases hf : f l with
  | none => rfl
  | some m =>
   have := h l m hf (by simpa [lvle] using hl)
   simp only []
   split
   ·split
    ·split
     ·simpa [lvle] using this
     ·rfl
    ·rfl
   ·simpa [lvle] using this
 | .ptr l off, hl => by
  simp only [rename]
  cases hf : f l with
  | none => rfl
  | some m => simpa [lvle] using h l m hf (by simpa [lvle] using hl)
 | .aptr l g i off, hl => by
  simp only [rename]
  cases hf : f l with
  | none => rfl
  | some m =>
   have := h l m hf (by simpa [lvle] using hl)
   simp only []
   split
   ·split
    ·split
     ·simpa [lvle] using this
     ·rfl
    ·rfl
   ·simpa [lvle] using this
 | .clo g cs, hl => by simp only [rename, lvle]; exact renameL_lvle h cs (by simpa [lvle] using hl)
 | .agg cs, hl => by simp only [rename, lvle]; exact renameL_lvle h cs (by simpa [lvle] using hl)
 | .tup cs, hl => by simp only [rename, lvle]; exact renameL_lvle h cs (by simpa [lvle] using hl)
theorem renameL_lvle {S : Store} {f : Loc → Option Loc} {z : Loc → Bool} {k : Nat} (h : ∀ l m : Loc, f l = some m → l.1 ≤ k → m.1 ≤ k) : ∀ (ts : List T), lvleL k ts = true → lvleL k (renameL S f z ts) = true
 | [], _ => rfl
 | x :: xs, hl => by
  simp only [lvleL, Bool.and_eq_true] at hl
  simp only [renameL, lvleL, Bool.and_eq_true]
  exact ⟨rename_lvle h x hl.1, renameL_lvle h xs hl.2⟩
end
mutual
theorem lvle_mono {k n : Nat} (h : k ≤ n) : ∀ {t : T}, lvle k t = true → lvle n t = true
 | .undef, _ => rfl
 | .sc _, _ => rfl
 | .lst .., _ => rfl
 | .lptr .., _ => rfl
 | .own l g off len, hl => by simp [lvle] at hl ⊢; omega
 | .ptr l off, hl => by simp [lvle] at hl ⊢; omega
 | .aptr l g i off, hl => by simp [lvle] at hl ⊢; omega
 | .clo g cs, hl => by simp only [lvle] at hl ⊢; exact lvleL_mono h hl
 | .agg cs, hl => by simp only [lvle] at hl ⊢; exact lvleL_mono h hl
 | .tup cs, hl => by simp only [lvle] at hl ⊢; exact lvleL_mono h hl
theorem lvleL_mono {k n : Nat} (h : k ≤ n) : ∀ {ts : List T}, lvleL k ts = true → lvleL n ts = true
 | [], _ => rfl
 | x :: xs, hl => by
  simp only [lvleL, Bool.and_eq_true] at hl ⊢
  exact ⟨lvle_mono h hl.1, lvleL_mono h hl.2⟩
end
mutual
theorem rename_none {S : Store} {f : Loc → Option Loc} {z : Loc → Bool} {n : Nat} (h : ∀ l : Loc, l.1 ≠ n → f l = some l ∧ z l = false) : ∀ (t : T), locsOf n t = [] → rename S f z t = t
 | .undef, _ => rfl
 | .sc _, _ => rfl
 | .lst .., _ => rfl
 | .lptr .., _ => rfl
 | .own l g off len, hl => by
  have := h l (by simpa [locsOf] using hl)
  simp [rename, this.1, this.2]
 | .ptr l off, hl => by
  have := h l (by simpa [locsOf] using hl)
  simp [rename, this.1]
 | .aptr l g i off, hl => by
  have := h l (by simpa [locsOf] using hl)
  simp [rename, this.1, this.2]
 | .clo g cs, hl => by simp only [rename]; rw [renameL_none h cs (by simpa [locsOf] using hl)]
 | .agg cs, hl => by simp only [rename]; rw [renameL_none h cs (by simpa [locsOf] using hl)]
 | .tup cs, hl => by simp only [rename]; rw [renameL_none h cs (by simpa [locsOf] using hl)]
theorem renameL_none {S : Store} {f : Loc → Option Loc} {z : Loc → Bool} {n : Nat} (h : ∀ l : Loc, l.1 ≠ n → f l = some l ∧ z l = false) : ∀ (ts : List T), locsOfL n ts = [] → renameL S f z ts = ts
 | [], _ => rfl
 | x :: xs, hl => by
  simp only [locsOfL, List.append_eq_nil_iff] at hl
  simp only [renameL]
  rw [rename_none h x hl.1, renameL_none h xs hl.2]
end
structure Inv (n : Nat) (c : Ctx) : Prop where
 rel : Rel c
 lev : ∀ l, c.D l → l.1 ≤ n
 full : ∀ l, c.S l ≠ none → c.D l
def cut (L : Nat) (c : Ctx) : Ctx := { c with S := trunc L c.S, D := fun l => c.D l ∧ l.1 ≤ L }
theorem trunc_some {L : Nat} {S : Store} {l : Loc} {o : Obj} : trunc L S l = some o ↔ l.1 ≤ L ∧ S l = some o := by
 unfold trunc
 by_cases h : l.1 ≤ L
 ·simp [h]
 ·simp only [h, if_false, false_and]; simp
theorem cut_mut {L : Nat} {c : Ctx} {l : Loc} (h : Mut (cut L c) l) : Mut c l := by
 by_cases hl : l.1 ≤ L
 ·simpa [Mut, cut, trunc, hl] using h
 ·simp [Mut, cut, trunc, hl] at h
theorem cut_kept_self (L : Nat) {a b : Ctx} (h : Kept a b) : Kept (cut L a) b := by
 refine ⟨h.sh, fun l hl => ?_, fun l ro g sz e xs hS => ?_, fun l hl => h.gone l (trunc_some.1 hl).2⟩
 ·obtain ⟨hD, bt, cs, hS⟩ := hl
  exact h.box l ⟨hD.1, bt, cs, (trunc_some.1 hS).2⟩
 ·obtain ⟨hl, hS⟩ := trunc_some.1 hS
  rcases h.arr l ro g sz e xs hS with hg | ⟨ro', g', sz', e', xs', h1, h2, h3⟩
  ·exact .inl hg
  ·refine .inr ⟨ro', g', sz', e', xs', h1, h2, fun hg => ?_⟩
   obtain ⟨a1, a2, a3, a4⟩ := h3 hg
   exact ⟨a1, a2, a3, fun hD => a4 hD.1⟩
theorem cut_kept_cut {L : Nat} {a b : Ctx} (h : Kept (cut L a) b) : Kept (cut L a) (cut L b) := by
 refine ⟨h.sh, fun l hl => ?_, fun l ro g sz e xs hS => ?_, fun l hl => trunc_some.2 ⟨(trunc_some.1 hl).1, h.gone l hl⟩⟩
 ·obtain ⟨⟨hD, bt, cs, hS⟩, hβ⟩ := h.box l hl
  obtain ⟨_, bt0, cs0, hS0⟩ := hl
  have hlv := (trunc_some.1 hS0).1
  exact ⟨⟨⟨hD, hlv⟩, bt, cs, trunc_some.2 ⟨hlv, hS⟩⟩, hβ⟩
 ·have hlv := (trunc_some.1 hS).1
  rcases h.arr l ro g sz e xs hS with hg | ⟨ro', g', sz', e', xs', h1, h2, h3⟩
  ·exact .inl (trunc_some.2 ⟨hlv, hg⟩)
  ·refine .inr ⟨ro', g', sz', e', xs', trunc_some.2 ⟨hlv, h1⟩, h2, fun hg => ?_⟩
   obtain ⟨a1, a2, a3, a4⟩ := h3 hg
   exact ⟨a1, a2, a3, fun hD => ⟨⟨(a4 hD).1, hlv⟩, (a4 hD).2.1, (a4 hD).2.2⟩⟩
theorem cut_trans {L : Nat} {a b c : Ctx} (h : Kept (cut L a) b) (k : Kept (cut L b) c) : Kept (cut L a) c := (cut_kept_cut h).trans k
theorem cut_inv {L n : Nat} {c : Ctx} (h : Inv n c) : Inv L (cut L c) := by
 have hk : ∀ (t : T) (v : Value), lvle L t = true → Rep c t v → Rep (cut L c) t v := fun t v ht hv => by
  have hm : Move c (cut L c) (fun l => if l.1 ≤ L then some l else none) (fun l => decide (L < l.1)) := by
   refine ⟨rfl, ?_, ?_, ?_, ?_, fun l hz hS => ?_⟩
   ·intro l m hf hz; simp at hf hz; omega
   ·intro l m hf hz; simp at hf hz; omega
   ·intro l m hf hz; simp at hf hz; omega
   ·intro l m hf hz; simp at hf hz; omega
   ·simp at hz
    refine ⟨by simp [hz], by simp [cut, trunc, hz], fun hD => ⟨⟨hD, hz⟩, rfl⟩⟩
  have := rename_rep hm t (.inl fun x hx => hx) hv
  rwa [rename_id (k := L) (fun l hl => by simp; omega) t ht] at this
 have hkL : ∀ (ts : List T) (vs : List Value), lvleL L ts = true → RepL c ts vs → RepL (cut L c) ts vs := by
  intro ts
  induction ts with
  | nil => intro vs _ hv; cases hv; exact .nil
  | cons x xs ih =>
   intro vs hl hv
   simp only [lvleL, Bool.and_eq_true] at hl
   cases hv with
   | cons _ v _ vs hx hr => exact .cons _ _ _ _ (hk x v hl.1 hx) (ih vs hl.2 hr)
 refine ⟨⟨fun l bt cs hD hS => ?_, fun l ro g sz e xs hD hS => ?_, fun l hD hm => h.rel.nsh l hD.1 (cut_mut hm), fun l l' hD hD' hm hm' he => h.rel.inj l l' hD.1 hD'.1 (cut_mut hm) (cut_mut hm') he, h.rel.lt, fun l hD => ?_⟩,
  fun l hD => hD.2, fun l hS => ?_⟩
 ·obtain ⟨h1, vs, h3, h4⟩ := h.rel.box l bt cs hD.1 (trunc_some.1 hS).2
  exact ⟨h1, vs, h3, hkL _ _ (lvleL_iff.2 fun t ht => by have := lvleL_iff.1 h1 t ht; exact lvle_mono hD.2 this) h4⟩
 ·obtain ⟨cur, fz, vs, h1, h2, h3, h4, h5⟩ := h.rel.arr l ro g sz e xs hD.1 (trunc_some.1 hS).2
  exact ⟨cur, fz, vs, h1, h2, h3, repE_kept (c := c) (c' := cut L c) (fun b hb => ⟨hb, rfl⟩) h4, h5⟩
 ·have := h.rel.dom l hD.1
  simp only [cut, trunc, hD.2, if_true]; exact this
 ·simp only [cut, trunc] at hS
  split at hS
  ·rename_i hl; exact ⟨h.full l hS, hl⟩
  ·exact absurd rfl hS
theorem mem_dedup {l : Loc} : ∀ {ls : List Loc}, l ∈ dedup ls ↔ l ∈ ls
 | [] => by simp [dedup]
 | x :: xs => by
  simp only [dedup, List.mem_cons, List.mem_filter, mem_dedup (ls := xs), bne_iff_ne]
  constructor
  ·rintro (h | ⟨h, _⟩)
   ·exact .inl h
   ·exact .inr h
  ·rintro (h | h)
   ·exact .inl h
   ·by_cases e : l = x
    ·exact .inl e
    ·exact .inr ⟨h, e⟩
theorem nodup_dedup : ∀ (ls : List Loc), (dedup ls).Nodup
 | [] => by simp [dedup]
 | x :: xs => by
  simp only [dedup, List.nodup_cons, List.mem_filter, bne_iff_ne]
  exact ⟨by simp, (nodup_dedup xs).filter _⟩
mutual
theorem locsOf_lev {n : Nat} {l : Loc} : ∀ (t : T), l ∈ locsOf n t → l.1 = n
 | .undef, h => by simp [locsOf] at h
 | .sc _, h => by simp [locsOf] at h
 | .lst .., h => by simp [locsOf] at h
 | .lptr .., h => by simp [locsOf] at h
 | .own m g off len, h => by
  simp only [locsOf] at h
  split at h
  ·rename_i e; simp at h; rw [h]; exact e
  ·simp at h
 | .ptr m off, h => by
  simp only [locsOf] at h
  split at h
  ·rename_i e; simp at h; rw [h]; exact e
  ·simp at h
 | .aptr m g i off, h => by
  simp only [locsOf] at h
  split at h
  ·rename_i e; simp at h; rw [h]; exact e
  ·simp at h
 | .clo g cs, h => locsOfL_lev cs (by simpa [locsOf] using h)
 | .agg cs, h => locsOfL_lev cs (by simpa [locsOf] using h)
 | .tup cs, h => locsOfL_lev cs (by simpa [locsOf] using h)
theorem locsOfL_lev {n : Nat} {l : Loc} : ∀ (ts : List T), l ∈ locsOfL n ts → l.1 = n
 | [], h => by simp [locsOfL] at h
 | x :: xs, h => by
  simp only [locsOfL, List.mem_append] at h
  rcases h with h | h
  ·exact locsOf_lev x h
  ·exact locsOfL_lev xs h
end
theorem posOf_spec {ls : List Loc} {l : Loc} {j : Nat} (h : posOf ls l = some j) : ls[j]? = some l := by
 unfold posOf at h
 rw [List.findIdx?_eq_some_iff_getElem] at h
 obtain ⟨hj, h1, _⟩ := h
 simp only [beq_iff_eq] at h1
 rw [List.getElem?_eq_getElem hj, h1]
theorem posOf_mem {ls : List Loc} {l : Loc} (h : l ∈ ls) : ∃ j, posOf ls l = some j := by
 cases hp : posOf ls l with
 | some j => exact ⟨j, rfl⟩
 | none =>
  unfold posOf at hp
  rw [List.findIdx?_eq_none_iff] at hp
  simpa using hp l h
theorem posOf_nodup {ls : List Loc} (hn : ls.Nodup) {j : Nat} {q : Loc} (hj : ls[j]? = some q) : posOf ls q = some j := by
 obtain ⟨i, hi⟩ := posOf_mem (List.mem_of_getElem? hj)
 have h1 := posOf_spec hi
 obtain ⟨h2, h3⟩ := List.getElem?_eq_some_iff.1 h1
 obtain ⟨h4, h5⟩ := List.getElem?_eq_some_iff.1 hj
 have := (List.getElem?_inj h2 hn).1 (h1.trans hj.symm)
 rw [hi, this]
theorem srcOf_pack {n : Nat} {ls : List Loc} {m k : Nat} {l l' : Loc} (hl : l.1 = n) (h : packF n ls m k l = some l') : srcOf ls m k l' = some l := by
 unfold packF at h
 simp only [hl, if_true, Option.map_eq_some_iff] at h
 obtain ⟨j, hj, rfl⟩ := h
 simp [srcOf, posOf_spec hj]
theorem pack_srcOf {n : Nat} {ls : List Loc} {m k : Nat} {l q : Loc} (hn : ls.Nodup) (hlv : ∀ q ∈ ls, q.1 = n) (h : srcOf ls m k l = some q) : packF n ls m k q = some l ∧ q ∈ ls ∧ l.1 = m := by
 unfold srcOf at h
 split at h
 ·rename_i hc
  have hq := List.mem_of_getElem? h
  refine ⟨?_, hq, hc.1⟩
  unfold packF
  simp only [hlv q hq, if_true, posOf_nodup hn h, Option.map_some, Option.some.injEq]
  ext
  ·exact hc.1.symm
  ·show k + (l.2 - k) = l.2; omega
 ·cases h
def addC (cB cP : Ctx) (n : Nat) (ls : List Loc) (m k : Nat) : Ctx :=
 { S := addS n ls m k cP.S cB.S, D := fun l => cB.D l ∨ srcOf ls m k l ≠ none, β := fun l => match srcOf ls m k l with
   | some q => cP.β q
   | none => cB.β l, Sh := cB.Sh, w := cB.w }
structure AddOk (cB cP : Ctx) (n : Nat) (ls : List Loc) (m k : Nat) : Prop where
 hP : Inv n cP
 hB : Inv m cB
 w : cB.w = cP.w
 n0 : 0 < n
 nm : n ≤ m + 1
 lv : ∀ q ∈ ls, q.1 = n
 nd : ls.Nodup
 ok : packOk n ls cP.S = true
 free : ∀ l, srcOf ls m k l ≠ none → cB.S l = none
 low : ∀ l, l.1 < n → cP.S l ≠ none → cB.S l = cP.S l ∧ (cP.D l → cB.D l ∧ cB.β l = cP.β l)
 sh : ShGo cP cB (arrLst cP.S ls)
 blk : ∀ q ∈ ls, cP.D q → Mut cP q → ¬ cB.Sh (cP.β q) ∧ ∀ l, cB.D l → Mut cB l → cB.β l ≠ cP.β q
theorem addC_old {cB cP : Ctx} {n : Nat} {ls : List Loc} {m k : Nat} (h : AddOk cB cP n ls m k) {l : Loc} (hS : cB.S l ≠ none) :
  srcOf ls m k l = none ∧ (addC cB cP n ls m k).S l = cB.S l ∧ (addC cB cP n ls m k).β l = cB.β l := by
 have : srcOf ls m k l = none := by
  cases hs : srcOf ls m k l with
  | none => rfl
  | some q => exact absurd (h.free l (by simp [hs])) hS
 exact ⟨this, by simp [addC, addS, this], by simp [addC, this]⟩
theorem addC_kept {cB cP : Ctx} {n : Nat} {ls : List Loc} {m k : Nat} (h : AddOk cB cP n ls m k) : Kept cB (addC cB cP n ls m k) := by
 refine ⟨fun b hb => ⟨hb, rfl⟩, fun l hl => ?_, fun l ro g sz e xs hS => .inr ?_, fun l hl => ?_⟩
 ·obtain ⟨hD, bt, cs, hS⟩ := hl
  obtain ⟨h1, h2, h3⟩ := addC_old h (l := l) (by rw [hS]; simp)
  exact ⟨⟨.inl hD, bt, cs, h2.trans hS⟩, h3⟩
 ·obtain ⟨h1, h2, h3⟩ := addC_old h (l := l) (by rw [hS]; simp)
  exact ⟨ro, g, sz, e, xs, h2.trans hS, Nat.le_refl _, fun _ => ⟨rfl, rfl, rfl, fun hD => ⟨.inl hD, h3, fun cur fz hw => ⟨cur, fz, hw, rfl⟩⟩⟩⟩
 ·obtain ⟨h1, h2, h3⟩ := addC_old h (l := l) (by rw [hl]; simp)
  exact h2.trans hl
theorem packOk_at {n : Nat} {ls : List Loc} {S : Store} (h : packOk n ls S = true) {q : Loc} (hq : q ∈ ls) :
  (∃ bt cs, S q = some (.box bt cs) ∧ lvleL (n - 1) cs = true) ∨ ∃ ro g sz e xs, S q = some (.arr ro g sz e xs) := by
 unfold packOk at h
 have := List.all_eq_true.1 h q hq
 split at this
 ·rename_i bt cs hS; exact .inl ⟨bt, cs, hS, this⟩
 ·rename_i ro g sz e xs hS; exact .inr ⟨ro, g, sz, e, xs, hS⟩
 ·cases this
theorem addC_move {cB cP : Ctx} {n : Nat} {ls : List Loc} {m k : Nat} (h : AddOk cB cP n ls m k) : Move cP (addC cB cP n ls m k) (packF n ls m k) (fun p => p.1 == n) := by
 refine ⟨h.w, ?_, ?_, ?_, ?_, fun l hz hS => ?_⟩
 ·intro l l' hf hz ro g sz e xs hS
  have := srcOf_pack (by simpa using hz) hf
  simp [addC, addS, this, hS, renObj]
 ·intro l l' hf hz bt cs hS
  have := srcOf_pack (by simpa using hz) hf
  exact ⟨bt, renameL cP.S (packF n ls m k) (fun p => p.1 == n) cs, by simp [addC, addS, this, hS, renObj]⟩
 ·intro l l' hf hz hS
  have := srcOf_pack (by simpa using hz) hf
  simp [addC, addS, this, hS, renObj]
 ·intro l l' hf hz hD
  have := srcOf_pack (by simpa using hz) hf
  simp [addC, this]
 ·have hl : l.1 ≠ n := by simpa using hz
  have hlt : l.1 < n := by have := h.hP.lev l (h.hP.full l hS); omega
  obtain ⟨h1, h2⟩ := h.low l hlt hS
  obtain ⟨_, h3, h4⟩ := addC_old h (l := l) (by rw [h1]; exact hS)
  exact ⟨by simp [packF, hl], h3.trans h1, fun hD => ⟨.inl (h2 hD).1, h4.trans (h2 hD).2⟩⟩
theorem addC_grp {cB cP : Ctx} {n : Nat} {ls : List Loc} {m k : Nat} (h : AddOk cB cP n ls m k) {l q : Loc} (hs : srcOf ls m k l = some q) :
  q ∈ ls ∧ l.1 = m ∧ cP.D q ∧ (addC cB cP n ls m k).β l = cP.β q ∧
   ((∃ bt cs, cP.S q = some (.box bt cs) ∧ lvleL (n - 1) cs = true ∧ (addC cB cP n ls m k).S l = some (.box bt cs)) ∨
    ∃ ro g sz e xs, cP.S q = some (.arr ro g sz e xs) ∧ (addC cB cP n ls m k).S l = some (.arr ro 0 sz e xs)) := by
 obtain ⟨h1, h2, h3⟩ := pack_srcOf h.nd h.lv hs
 have hok := packOk_at h.ok h2
 refine ⟨h2, h3, h.hP.full q ?_, by simp [addC, hs], ?_⟩
 ·rcases hok with ⟨bt, cs, hS, _⟩ | ⟨ro, g, sz, e, xs, hS⟩ <;> simp [hS]
 ·rcases hok with ⟨bt, cs, hS, hl⟩ | ⟨ro, g, sz, e, xs, hS⟩
  ·refine .inl ⟨bt, cs, hS, hl, ?_⟩
   have hn := h.n0
   simp only [addC, addS, hs, hS, Option.map_some, renObj]
   rw [renameL_id (k := n - 1) (fun l hl => by
    have : l.1 ≠ n := by omega
    simp [packF, this]) cs hl]
  ·exact .inr ⟨ro, g, sz, e, xs, hS, by simp [addC, addS, hs, hS, renObj]⟩
theorem addC_mut {cB cP : Ctx} {n : Nat} {ls : List Loc} {m k : Nat} (h : AddOk cB cP n ls m k) {l q : Loc} (hs : srcOf ls m k l = some q) (hm : Mut (addC cB cP n ls m k) l) : Mut cP q := by
 obtain ⟨_, _, _, _, h5⟩ := addC_grp h hs
 rcases h5 with ⟨bt, cs, h6, h7, h8⟩ | ⟨ro, g, sz, e, xs, h6, h7⟩
 ·simp [Mut, h6]
 ·simpa [Mut, h6, h7] using hm
theorem addC_mut_old {cB cP : Ctx} {n : Nat} {ls : List Loc} {m k : Nat} {l : Loc} (hs : srcOf ls m k l = none) (hm : Mut (addC cB cP n ls m k) l) : Mut cB l := by
 simpa [Mut, addC, addS, hs] using hm
theorem arrLst_at {S : Store} {ls : List Loc} (h : arrLst S ls = false) {q : Loc} (hq : q ∈ ls) :
  (∀ bt cs, S q = some (.box bt cs) → hasLstL cs = false) ∧ ∀ ro g sz e xs, S q = some (.arr ro g sz e xs) → ro = false ∧ hasLstL xs = false := by
 unfold arrLst at h
 have := List.any_eq_false.1 h q hq
 refine ⟨fun bt cs hS => ?_, fun ro g sz e xs hS => ?_⟩
 ·simpa [hS] using this
 ·simpa [hS] using this
theorem addC_inv {cB cP : Ctx} {n : Nat} {ls : List Loc} {m k : Nat} (h : AddOk cB cP n ls m k) : Inv m (addC cB cP n ls m k) := by
 have hk := addC_kept h
 have hmv := addC_move h
 have hold : ∀ l, (addC cB cP n ls m k).D l → srcOf ls m k l = none → cB.D l := fun l hD hs => hD.resolve_right (by simp [hs])
 refine ⟨⟨fun l bt cs hD hS => ?_, fun l ro g sz e xs hD hS => ?_, fun l hD hm => ?_, fun l l' hD hD' hm hm' he => ?_, h.hB.rel.lt, fun l hD => ?_⟩, fun l hD => ?_, fun l hS => ?_⟩
 ·cases hs : srcOf ls m k l with
  | none =>
   have hD := hold l hD hs
   simp only [addC, addS, hs] at hS
   obtain ⟨h1, vs, h3, h4⟩ := h.hB.rel.box l bt cs hD hS
   exact ⟨h1, vs, by simpa [addC, hs] using h3, h4.kept hk⟩
  | some q =>
   obtain ⟨h1, h2, h3, h4, h5⟩ := addC_grp h hs
   rcases h5 with ⟨dt, ds, h6, h7, h8⟩ | ⟨ro, g, sz, e, xs, h6, h7⟩
   ·rw [h8] at hS
    cases hS
    obtain ⟨a1, vs, a3, a4⟩ := h.hP.rel.box q bt cs h3 h6
    have hn := h.n0
    have hnm := h.nm
    have hr := renameL_rep hmv cs (h.sh.imp id fun ha => (arrLst_at ha h1).1 bt cs h6) a4
    rw [renameL_id (k := n - 1) (fun l hl => by
     have : l.1 ≠ n := by omega
     simp [packF, this]) cs h7] at hr
    refine ⟨lvleL_mono (by omega) h7, vs, ?_, hr⟩
    rw [h4]
    show cB.w.heap[_]? = _
    rw [h.w]; exact a3
   ·rw [h7] at hS; cases hS
 ·cases hs : srcOf ls m k l with
  | none =>
   have hD := hold l hD hs
   simp only [addC, addS, hs] at hS
   obtain ⟨cur, fz, vs, h1, h2, h3, h4, h5⟩ := h.hB.rel.arr l ro g sz e xs hD hS
   exact ⟨cur, fz, vs, by simpa [addC, hs] using h1, h2, fun hr => by simpa [addC, hs] using h3 hr, h4.kept hk, h5⟩
  | some q =>
   obtain ⟨h1, h2, h3, h4, h5⟩ := addC_grp h hs
   rcases h5 with ⟨dt, ds, h6, h7, h8⟩ | ⟨ro', g', sz', e', xs', h6, h7⟩
   ·rw [h8] at hS; cases hS
   ·rw [h7] at hS
    simp only [Option.some.injEq, Obj.arr.injEq] at hS
    obtain ⟨rfl, rfl, rfl, rfl, rfl⟩ := hS
    obtain ⟨cur, fz, vs, a1, a2, a3, a4, a5⟩ := h.hP.rel.arr q _ _ _ _ _ h3 h6
    refine ⟨cur, fz, vs, ?_, a2, fun hr => ?_, repE_go (c' := addC cB cP n ls m k) h.w (h.sh.imp id fun ha => ((arrLst_at ha h1).2 _ _ _ _ _ h6).2) a4, a5⟩
    ·rw [h4]
     show cB.w.heap[_]? = _
     rw [h.w]; exact a1
    ·rw [h4]
     rcases h.sh with hgo | ha
     ·exact hgo _ (a3 hr)
     ·have := ((arrLst_at ha h1).2 _ _ _ _ _ h6).1
      rw [this] at hr; cases hr
 ·cases hs : srcOf ls m k l with
  | none =>
   have hD := hold l hD hs
   have := h.hB.rel.nsh l hD (addC_mut_old hs hm)
   simpa [addC, hs] using this
  | some q =>
   obtain ⟨h1, h2, h3, h4, h5⟩ := addC_grp h hs
   rw [h4]
   exact (h.blk q h1 h3 (addC_mut h hs hm)).1
 ·cases hs : srcOf ls m k l with
  | none =>
   have hD := hold l hD hs
   have hm0 := addC_mut_old hs hm
   have hb : (addC cB cP n ls m k).β l = cB.β l := by simp [addC, hs]
   cases hs' : srcOf ls m k l' with
   | none =>
    have hD' := hold l' hD' hs'
    have hb' : (addC cB cP n ls m k).β l' = cB.β l' := by simp [addC, hs']
    exact h.hB.rel.inj l l' hD hD' hm0 (addC_mut_old hs' hm') (by rw [← hb, ← hb']; exact he)
   | some q' =>
    obtain ⟨h1, h2, h3, h4, h5⟩ := addC_grp h hs'
    exact absurd (by rw [← hb, ← h4]; exact he) ((h.blk q' h1 h3 (addC_mut h hs' hm')).2 l hD hm0)
  | some q =>
   obtain ⟨h1, h2, h3, h4, h5⟩ := addC_grp h hs
   cases hs' : srcOf ls m k l' with
   | none =>
    have hD' := hold l' hD' hs'
    have hb' : (addC cB cP n ls m k).β l' = cB.β l' := by simp [addC, hs']
    exact absurd (by rw [← hb', ← h4]; exact he.symm) ((h.blk q h1 h3 (addC_mut h hs hm)).2 l' hD' (addC_mut_old hs' hm'))
   | some q' =>
    obtain ⟨a1, a2, a3, a4, a5⟩ := addC_grp h hs'
    have := h.hP.rel.inj q q' h3 a3 (addC_mut h hs hm) (addC_mut h hs' hm') (by rw [← h4, ← a4]; exact he)
    subst this
    have e1 := (pack_srcOf h.nd h.lv hs).1
    have e2 := (pack_srcOf h.nd h.lv hs').1
    rw [e1] at e2
    exact Option.some.inj e2
 ·cases hs : srcOf ls m k l with
  | none => simpa [addC, addS, hs] using h.hB.rel.dom l (hold l hD hs)
  | some q =>
   obtain ⟨_, _, _, _, h5⟩ := addC_grp h hs
   rcases h5 with ⟨bt, cs, h6, h7, h8⟩ | ⟨ro, g, sz, e, xs, h6, h7⟩
   ·rw [h8]; simp
   ·rw [h7]; simp
 ·cases hs : srcOf ls m k l with
  | none => exact h.hB.lev l (hold l hD hs)
  | some q => exact Nat.le_of_eq (addC_grp h hs).2.1
 ·cases hs : srcOf ls m k l with
  | none => exact .inl (h.hB.full l (by simpa [addC, addS, hs] using hS))
  | some q => exact .inr (by simp [hs])
theorem addC_fr {a cB cP : Ctx} {n : Nat} {ls : List Loc} {m k : Nat} (h : AddOk cB cP n ls m k) (hB : Fr a cB) (hq : ∀ q ∈ ls, cP.D q → Mut cP q → a.w.heap.size ≤ cP.β q) :
  Fr a (addC cB cP n ls m k) := by
 refine ⟨hB.os, hB.tape, hB.output, hB.size, hB.blk, fun l hD hm => ?_, hB.shn⟩
 cases hs : srcOf ls m k l with
 | none =>
  have hD := hD.resolve_right (by simp [hs])
  have hb : (addC cB cP n ls m k).β l = cB.β l := by simp [addC, hs]
  rw [hb]
  exact hB.own l hD (addC_mut_old hs hm)
 | some q =>
  obtain ⟨h1, h2, h3, h4, h5⟩ := addC_grp h hs
  rw [h4]
  exact .inr (hq q h1 h3 (addC_mut h hs hm))
theorem cut_fr {L : Nat} {a c : Ctx} (h : Fr a c) : Fr a (cut L c) :=
 ⟨h.os, h.tape, h.output, h.size, h.blk, fun l hD hm => h.own l hD.1 (cut_mut hm), h.shn⟩
theorem pack_addOk {L : Nat} {c : Ctx} (hi : Inv (L + 1) c) {r : T} (hok : packOk (L + 1) (dedup (locsOf (L + 1) r)) c.S = true) {m k : Nat} (hm : m = L + 1 ∨ m = L)
  (hf : ∀ l, srcOf (dedup (locsOf (L + 1) r)) m k l ≠ none → trunc L c.S l = none) : AddOk (cut L c) c (L + 1) (dedup (locsOf (L + 1) r)) m k := by
 refine ⟨hi, ?_, rfl, by omega, by omega, fun q hq => locsOf_lev r (mem_dedup.1 hq), nodup_dedup _, hok, hf, fun l hl hS => ?_, .inl fun b hb => hb, fun q hq hD hm => ?_⟩
 ·have := cut_inv (L := L) hi
  exact ⟨this.rel, fun l hD => by have := this.lev l hD; omega, this.full⟩
 ·have hlL : l.1 ≤ L := by omega
  refine ⟨by simp [cut, trunc, hlL], fun hD => ⟨⟨hD, hlL⟩, rfl⟩⟩
 ·refine ⟨hi.rel.nsh q hD hm, fun l hD' hm' he => ?_⟩
  have := hi.rel.inj l q hD'.1 hD (cut_mut hm') hm he
  have h1 := locsOf_lev r (mem_dedup.1 hq)
  have h2 := hD'.2
  rw [this] at h2
  omega
structure Left (L : Nat) (c : Ctx) (r : T) (S' : Store) (v : Value) (c' : Ctx) : Prop where
 inv : Inv (L + 1) c'
 S : c'.S = S'
 rep : Rep c' r v
 kept : Kept c c'
 fr : Fr c c'
 new : ∀ l, c'.D l → c.D l ∨ 1 ≤ l.1
theorem cut_full {L : Nat} {c0 : Ctx} (h0 : ∀ l, c0.D l → l.1 ≤ L) (hS0 : ∀ l, c0.S l ≠ none → c0.D l) : Kept c0 (cut L c0) := by
  refine ⟨fun b hb => ⟨hb, rfl⟩, fun l hl => ⟨⟨⟨hl.1, h0 l hl.1⟩, hl.2.choose, hl.2.choose_spec.choose, trunc_some.2 ⟨h0 l hl.1, hl.2.choose_spec.choose_spec⟩⟩, rfl⟩, fun l ro g sz e xs hS => .inr ?_, fun l hl => trunc_some.2 ⟨h0 l (hS0 l (by rw [hl]; simp)), hl⟩⟩
  have hD := hS0 l (by rw [hS]; simp)
  exact ⟨ro, g, sz, e, xs, trunc_some.2 ⟨h0 l hD, hS⟩, Nat.le_refl _, fun _ => ⟨rfl, rfl, rfl, fun _ => ⟨⟨hD, h0 l hD⟩, rfl, fun cur fz hw => ⟨cur, fz, hw, rfl⟩⟩⟩⟩
theorem pack_sound {L : Nat} {c0 c : Ctx} (hi : Inv (L + 1) c) (h0 : ∀ l, c0.D l → l.1 ≤ L) (hS0 : ∀ l, c0.S l ≠ none → c0.D l) (hk : Kept (cut L c0) c) (hfr : Fr c0 c) (hnew : ∀ l, c.D l → c0.D l ∨ 1 ≤ l.1)
  {r r' : T} {S' : Store} {v : Value} (hr : Rep c r v) (h : pack (L + 1) r c.S = some (r', S')) : ∃ c', c'.w = c.w ∧ Left L c0 r' S' v c' := by
 unfold pack at h
 split at h
 ·rename_i hc
  simp only [Bool.and_eq_true] at hc
  simp only [Option.some.injEq, Prod.mk.injEq] at h
  obtain ⟨rfl, rfl⟩ := h
  have hok : AddOk (cut L c) c (L + 1) (dedup (locsOf (L + 1) r)) (L + 1) 0 := pack_addOk hi hc.1 (.inl rfl) fun l hl => by
   cases hs : srcOf (dedup (locsOf (L + 1) r)) (L + 1) 0 l with
   | none => exact absurd hs hl
   | some q =>
    unfold srcOf at hs
    split at hs
    ·rename_i hlv
     have : ¬ l.1 ≤ L := by omega
     simp [trunc, this]
    ·cases hs
  refine ⟨addC (cut L c) c (L + 1) (dedup (locsOf (L + 1) r)) (L + 1) 0, rfl, addC_inv hok, rfl, rename_rep (addC_move hok) r (.inl fun b hb => hb) hr,
   (cut_full h0 hS0).trans ((cut_kept_cut hk).trans (addC_kept hok)), addC_fr hok (cut_fr hfr) fun q hq hD hm => ?_, fun l hD => ?_⟩
  ·rcases hfr.own q hD hm with ⟨h1, _, _⟩ | h1
   ·have h2 := h0 q h1
    have h3 := locsOf_lev r (mem_dedup.1 hq)
    omega
   ·exact h1
  ·rcases hD with hD | hD
   ·exact hnew l hD.1
   ·cases hs : srcOf (dedup (locsOf (L + 1) r)) (L + 1) 0 l with
    | none => exact absurd hs hD
    | some q => exact .inr (by have := (addC_grp hok hs).2.1; omega)
 ·cases h
def maskC (n : Nat) (kl : List Nat) (c : Ctx) : Ctx := { c with S := maskS n kl c.S, D := fun l => c.D l ∧ (l.1 = n → kl.contains l.2 = true) }
theorem maskS_in {n : Nat} {kl : List Nat} {S : Store} {l : Loc} (h : l.1 = n) (hk : kl.contains l.2 = true) : maskS n kl S l = (S l).map (renObj S (maskF n kl) (fun m => m.1 == n)) := by
 simp only [maskS, h, hk, if_true]
theorem maskS_low {n : Nat} {kl : List Nat} {S : Store} {l : Loc} (h : l.1 ≠ n) : maskS n kl S l = S l := by
 simp only [maskS, h, if_false]
theorem maskS_out {n : Nat} {kl : List Nat} {S : Store} {l : Loc} (h : l.1 = n) (hk : kl.contains l.2 = false) : maskS n kl S l = none := by
 simp only [maskS, h, hk, if_true, Bool.false_eq_true, if_false]
theorem mask_move (n : Nat) (kl : List Nat) (c : Ctx) : Move c (maskC n kl c) (maskF n kl) (fun m => m.1 == n) := by
 have key : ∀ l m : Loc, maskF n kl l = some m → l.1 = n → m = l ∧ kl.contains l.2 = true := by
  intro l m hf hl
  simp only [maskF, hl, if_true] at hf
  split at hf
  ·rename_i hc; cases hf; exact ⟨rfl, hc⟩
  ·cases hf
 refine ⟨rfl, ?_, ?_, ?_, ?_, fun l hz hS => ?_⟩
 ·intro l m hf hz ro g sz e xs hS
  have hl : l.1 = n := by simpa using hz
  obtain ⟨rfl, hc⟩ := key l m hf hl
  simp only [maskC]
  rw [maskS_in hl hc, hS]; rfl
 ·intro l m hf hz bt cs hS
  have hl : l.1 = n := by simpa using hz
  obtain ⟨rfl, hc⟩ := key l m hf hl
  refine ⟨bt, renameL c.S (maskF n kl) (fun m => m.1 == n) cs, ?_⟩
  simp only [maskC]
  rw [maskS_in hl hc, hS]; rfl
 ·intro l m hf hz hS
  have hl : l.1 = n := by simpa using hz
  obtain ⟨rfl, hc⟩ := key l m hf hl
  simp only [maskC]
  rw [maskS_in hl hc, hS]; rfl
 ·intro l m hf hz hD
  have hl : l.1 = n := by simpa using hz
  obtain ⟨rfl, hc⟩ := key l m hf hl
  exact ⟨⟨hD, fun _ => hc⟩, rfl⟩
 ·have hl : l.1 ≠ n := by simpa using hz
  exact ⟨by simp [maskF, hl], maskS_low hl, fun hD => ⟨⟨hD, fun h => absurd h hl⟩, rfl⟩⟩
theorem mask_mut {n : Nat} {kl : List Nat} {c : Ctx} {l : Loc} (h : Mut (maskC n kl c) l) : Mut c l := by
 unfold Mut maskC at *
 simp only at h
 by_cases hl : l.1 = n
 ·cases hk : kl.contains l.2 with
  | false => rw [maskS_out hl hk] at h; exact h.elim
  | true =>
   rw [maskS_in hl hk] at h
   cases hS : c.S l with
   | none => simp [hS] at h
   | some o => cases o <;> simpa [hS, renObj] using h
 ·rw [maskS_low hl] at h; exact h
theorem mask_fr (n : Nat) (kl : List Nat) (c : Ctx) : Fr c (maskC n kl c) :=
 ⟨rfl, rfl, rfl, Nat.le_refl _, fun _ _ _ => rfl, fun l hD hm => .inl ⟨hD.1, mask_mut hm, rfl⟩, fun b hb => .inl hb⟩
theorem mask_kept (L : Nat) (kl : List Nat) (c : Ctx) : Kept (cut L c) (maskC (L + 1) kl c) := by
 have hne : ∀ l : Loc, l.1 ≤ L → l.1 ≠ L + 1 := fun l h => by omega
 refine ⟨fun b hb => ⟨hb, rfl⟩, fun l hl => ?_, fun l ro g sz e xs hS => .inr ?_, fun l hl => ?_⟩
 ·obtain ⟨hD, bt, cs, hS⟩ := hl
  exact ⟨⟨⟨hD.1, fun h => absurd h (hne l hD.2)⟩, bt, cs, (maskS_low (hne l hD.2)).trans (trunc_some.1 hS).2⟩, rfl⟩
 ·obtain ⟨hl, hS⟩ := trunc_some.1 hS
  exact ⟨ro, g, sz, e, xs, (maskS_low (hne l hl)).trans hS, Nat.le_refl _, fun _ => ⟨rfl, rfl, rfl, fun hD => ⟨⟨hD.1, fun h => absurd h (hne l hl)⟩, rfl, fun cur fz hw => ⟨cur, fz, hw, rfl⟩⟩⟩⟩
 ·obtain ⟨hl, hS⟩ := trunc_some.1 hl
  exact (maskS_low (hne l hl)).trans hS
theorem mask_inv {n : Nat} {kl : List Nat} {c : Ctx} (h : Inv n c) : Inv n (maskC n kl c) := by
 have hmv := mask_move n kl c
 have hin : ∀ l, (maskC n kl c).D l → l.1 = n → kl.contains l.2 = true := fun l hD => hD.2
 refine ⟨⟨fun l bt cs hD hS => ?_, fun l ro g sz e xs hD hS => ?_, fun l hD hm => h.rel.nsh l hD.1 (mask_mut hm), fun l l' hD hD' hm hm' he => h.rel.inj l l' hD.1 hD'.1 (mask_mut hm) (mask_mut hm') he, h.rel.lt, fun l hD => ?_⟩,
  fun l hD => h.lev l hD.1, fun l hS => ?_⟩
 ·simp only [maskC] at hS
  by_cases hl : l.1 = n
  ·rw [maskS_in hl (hin l hD hl)] at hS
   cases hS0 : c.S l with
   | none => simp [hS0] at hS
   | some o =>
    cases o with
    | gone => simp [hS0, renObj] at hS
    | arr => simp [hS0, renObj] at hS
    | box dt ds =>
     simp only [hS0, Option.map_some, renObj, Option.some.injEq, Obj.box.injEq] at hS
     obtain ⟨hS9, hS⟩ := hS
     subst hS9
     subst hS
     obtain ⟨h1, vs, h3, h4⟩ := h.rel.box l _ ds hD.1 hS0
     refine ⟨renameL_lvle (fun a b hf ha => ?_) ds h1, vs, h3, renameL_rep hmv ds (.inl fun b hb => hb) h4⟩
     simp only [maskF] at hf
     split at hf
     ·split at hf
      ·cases hf; exact ha
      ·cases hf
     ·cases hf; exact ha
  ·rw [maskS_low hl] at hS
   obtain ⟨h1, vs, h3, h4⟩ := h.rel.box l bt cs hD.1 hS
   have hlt : l.1 < n := by have := h.lev l hD.1; omega
   have hr := renameL_rep hmv cs (.inl fun b hb => hb) h4
   rw [renameL_id (k := l.1) (fun a ha => by
    have : a.1 ≠ n := by omega
    simp [maskF, this]) cs h1] at hr
   exact ⟨h1, vs, h3, hr⟩
 ·simp only [maskC] at hS
  have : ∃ g', c.S l = some (.arr ro g' sz e xs) := by
   by_cases hl : l.1 = n
   ·rw [maskS_in hl (hin l hD hl)] at hS
    cases hS0 : c.S l with
    | none => simp [hS0] at hS
    | some o =>
     cases o with
     | gone => simp [hS0, renObj] at hS
     | box => simp [hS0, renObj] at hS
     | arr ro' g' sz' e' xs' =>
      simp only [hS0, Option.map_some, renObj, Option.some.injEq, Obj.arr.injEq] at hS
      obtain ⟨rfl, rfl, rfl, rfl, rfl⟩ := hS
      exact ⟨g', rfl⟩
   ·rw [maskS_low hl] at hS
    exact ⟨g, hS⟩
  obtain ⟨g', hS'⟩ := this
  obtain ⟨cur, fz, vs, h1, h2, h3, h4, h5⟩ := h.rel.arr l _ _ _ _ _ hD.1 hS'
  exact ⟨cur, fz, vs, h1, h2, h3, repE_kept (c := c) (c' := maskC n kl c) (fun b hb => ⟨hb, rfl⟩) h4, h5⟩
 ·have := h.rel.dom l hD.1
  simp only [maskC]
  by_cases hl : l.1 = n
  ·rw [maskS_in hl (hin l hD hl)]
   cases hS0 : c.S l with
   | none => exact absurd hS0 this
   | some o => simp
  ·rw [maskS_low hl]; exact this
 ·simp only [maskC] at hS
  by_cases hl : l.1 = n
  ·cases hk : kl.contains l.2 with
   | false => rw [maskS_out hl hk] at hS; exact absurd rfl hS
   | true =>
    rw [maskS_in hl hk] at hS
    exact ⟨h.full l fun h0 => hS (by rw [h0]; rfl), fun _ => hk⟩
  ·rw [maskS_low hl] at hS
   exact ⟨h.full l hS, fun h0 => absurd h0 hl⟩
structure Glob where
 G : World → Prop
 B : Nat → Prop
 stable : ∀ w w' : World, G w → (∀ b, B b → w'.heap[b]? = w.heap[b]?) → G w'
def Good (γ : Glob) (c : Ctx) : Prop := γ.G c.w ∧ ∀ b, γ.B b → c.Sh b
theorem Good.kept {γ : Glob} {a b : Ctx} (h : Good γ a) (hk : ∀ x, a.Sh x → b.Sh x ∧ b.w.heap[x]? = a.w.heap[x]?) : Good γ b :=
 ⟨γ.stable _ _ h.1 fun x hx => (hk x (h.2 x hx)).2, fun x hx => (hk x (h.2 x hx)).1⟩
def Entered (P : Program) (f : FuncId) : Prop := ∃ fn, P.funcs[f]? = some fn ∧ (fn.name == "runtime.NumGoroutine") = false ∧ fn.body.isNone = false
def CallPost (L : Nat) (c : Ctx) (r : T) (S' : Store) : Ending → World → Prop
 | .returned v, w' => ∃ c', c'.w = w' ∧ Left L c r S' v c'
 | _, _ => False
def CallOk (P : Program) (γ : Glob) (call : CallF) : Prop :=
 ∀ L f ts S r S', call L f ts S = some (r, S') → Entered P f ∧ ∀ c vs, c.S = S → Inv L c → Good γ c → RepL c ts vs → Calls P f vs.toArray c.w (CallPost L c r S')
theorem snapArgs_rep {c : Ctx} (hR : Rel c) (om : List Nat) {c' : Ctx} (hk : Kept c c') (hw : c'.w = c.w) : ∀ (ts : List T) (j : Nat) {us : List T} {ls : List Loc} {vs : List Value}, snapArgs om c.S j ts = some (us, ls) → RepL c ts vs →
  SnapOk c ls ∧ ((∀ l ∈ ls, c'.Sh (c.β l)) → RepL c' us vs)
 | [], j, us, ls, vs, h, hv => by
  simp only [snapArgs, Option.some.injEq, Prod.mk.injEq] at h
  obtain ⟨rfl, rfl⟩ := h
  cases hv
  exact ⟨(by intro l h; cases h), fun _ => .nil⟩
 | x :: xs, j, us, ls, vs, h, hv => by
  simp only [snapArgs] at h
  split at h
  ·rename_i y l ys ls' h1 h2
   simp only [Option.some.injEq, Prod.mk.injEq] at h
   obtain ⟨rfl, rfl⟩ := h
   cases hv with
   | cons _ v _ vs hx hr =>
    have hx' : SnapOk c l ∧ ((∀ q ∈ l, c'.Sh (c.β q)) → Rep c' y v) := by
     split at h1
     ·simp only [Option.some.injEq, Prod.mk.injEq] at h1
      obtain ⟨rfl, rfl⟩ := h1
      exact ⟨(by intro l h; cases h), fun _ => hx.kept hk⟩
     ·exact snap_rep hR hk hw x h1 hx
    obtain ⟨a1, a2⟩ := hx'
    obtain ⟨b1, b2⟩ := snapArgs_rep hR om hk hw xs (j + 1) h2 hr
    refine ⟨fun m hm => ?_, fun hsh => .cons _ _ _ _ (a2 fun m hm => hsh m (List.mem_append_left _ hm)) (b2 fun m hm => hsh m (List.mem_append_right _ hm))⟩
    rcases List.mem_append.1 hm with hm | hm
    ·exact a1 m hm
    ·exact b1 m hm
  ·cases h
theorem snapArgs_shut {c : Ctx} (hR : Rel c) {om : List Nat} {j : Nat} {ts us : List T} {ls : List Loc} {vs : List Value} (h : snapArgs om c.S j ts = some (us, ls)) (hv : RepL c ts vs) : RepL (ctxShut c ls) us vs := by
 obtain ⟨h1, h2⟩ := snapArgs_rep hR om (ctxShut_kept c ls) rfl ts j h hv
 exact h2 (ctxShut_sh h1)
theorem inv_shut {L : Nat} {c : Ctx} (hi : Inv L c) (ls : List Loc) : Inv L (ctxShut c ls) :=
 ⟨ctxShut_rel hi.rel ls, hi.lev, fun l hl => hi.full l fun h0 => hl (setRo_none.2 h0)⟩
theorem late {L : Nat} {a : Ctx} (hi : Inv L a) {w' : World} {Sh' : Nat → Prop} (hc : Calm a.w w') (hsz : a.w.heap.size ≤ w'.heap.size) (hw : ∀ b, b < a.w.heap.size → w'.heap[b]? = a.w.heap[b]?)
  (h1 : ∀ b, a.Sh b → Sh' b) (h2 : ∀ b, Sh' b → b < w'.heap.size) (h3 : ∀ b, Sh' b → a.Sh b ∨ a.w.heap.size ≤ b) :
  Inv L { a with Sh := Sh', w := w' } ∧ Kept a { a with Sh := Sh', w := w' } ∧ Fr a { a with Sh := Sh', w := w' } := by
 have hk : Kept a { a with Sh := Sh', w := w' } := by
  refine ⟨fun b hb => ⟨h1 b hb, hw b (hi.rel.lt b hb)⟩, fun l hl => ⟨hl, rfl⟩, fun l ro g sz e xs hS => .inr ⟨ro, g, sz, e, xs, hS, Nat.le_refl _, fun _ => ⟨rfl, rfl, rfl, fun hD => ⟨hD, rfl, fun cur fz hh => ⟨cur, fz, ?_, rfl⟩⟩⟩⟩, fun l h => h⟩
  exact (hw _ (lt_of_get hh)).trans hh
 refine ⟨⟨⟨fun l bt cs hD hS => ?_, fun l ro g sz e xs hD hS => ?_, fun l hD hm hs => ?_, hi.rel.inj, h2, hi.rel.dom⟩, hi.lev, hi.full⟩, hk,
  ⟨hc.os, hc.tape, hc.output, hsz, fun b hb _ => hw b hb, fun l hD hm => .inl ⟨hD, hm, rfl⟩, fun b hb => (h3 b hb).imp id .inl⟩⟩
 ·obtain ⟨a1, vs, a3, a4⟩ := hi.rel.box l bt cs hD hS
  exact ⟨a1, vs, (hw _ (lt_of_get a3)).trans a3, a4.kept hk⟩
 ·obtain ⟨cur, fz, vs, a1, a2, a3, a4, a5⟩ := hi.rel.arr l ro g sz e xs hD hS
  exact ⟨cur, fz, vs, (hw _ (lt_of_get a1)).trans a1, a2, fun hr => h1 _ (a3 hr), a4.kept hk, a5⟩
 ·rcases h3 _ hs with h | h
  ·exact hi.rel.nsh l hD hm h
  ·have := hi.rel.mutLt (l := l) hD hm
   have h : a.w.heap.size ≤ a.β l := h
   omega
structure Taken (L : Nat) (a cB : Ctx) (r : T) (S' : Store) (v : Value) (c' : Ctx) : Prop where
 inv : Inv L c'
 S : c'.S = S'
 rep : Rep c' r v
 kept : Kept cB c'
 fr : Fr a c'
 new : ∀ l, c'.D l → cB.D l ∨ l.1 = L
theorem srcOf_nil (m k : Nat) (l : Loc) : srcOf [] m k l = none := by unfold srcOf; split <;> simp
theorem takeIn_sound {a cB cP : Ctx} {n L : Nat} {d : Option Tmp} {r r' : T} {S' : Store} {v : Value} (h : takeIn n L d r cP.S cB.S = some (r', S')) (hr : Rep cP r v) (hrs : ShGo cP cB (hasLst r))
  (hmk : ∀ k, packOk n (dedup (locsOf n r)) cP.S = true → (∀ l, srcOf (dedup (locsOf n r)) L k l ≠ none → cB.S l = none) → AddOk cB cP n (dedup (locsOf n r)) L k)
  (hfr : Fr a cB) (hq : ∀ q ∈ dedup (locsOf n r), cP.D q → Mut cP q → a.w.heap.size ≤ cP.β q) : ∃ c', c'.w = cB.w ∧ Taken L a cB r' S' v c' := by
 have mk : ∀ k, AddOk cB cP n (dedup (locsOf n r)) L k → Taken L a cB (rename cP.S (packF n (dedup (locsOf n r)) L k) (fun p => p.1 == n) r) (addS n (dedup (locsOf n r)) L k cP.S cB.S) v (addC cB cP n (dedup (locsOf n r)) L k) := by
  intro k hok
  refine ⟨addC_inv hok, rfl, rename_rep (addC_move hok) r (hrs.imp id id) hr, addC_kept hok, addC_fr hok hfr hq, fun l hD => ?_⟩
  rcases hD with hD | hD
  ·exact .inl hD
  ·cases hs : srcOf (dedup (locsOf n r)) L k l with
   | none => exact absurd hs hD
   | some q => exact .inr (addC_grp hok hs).2.1
 unfold takeIn at h
 split at h
 ·rename_i hnil
  split at h
  ·rename_i hl
   simp only [Option.some.injEq, Prod.mk.injEq] at h
   obtain ⟨rfl, rfl⟩ := h
   have hok := hmk 0 (by rw [hnil]; rfl) (fun l hl => absurd (by rw [hnil]; exact srcOf_nil _ _ _) hl)
   have := mk 0 hok
   have h0 : locsOf n r = [] := by
    cases hx : locsOf n r with
    | nil => rfl
    | cons x xs => rw [hx] at hnil; simp [dedup] at hnil
   rw [rename_none (n := n) (fun l hl => by simp [packF, hl]) r h0] at this
   refine ⟨addC cB cP n (dedup (locsOf n r)) L 0, rfl, ?_⟩
   have hS : addS n (dedup (locsOf n r)) L 0 cP.S cB.S = cB.S := by
    funext l
    rw [hnil]
    simp [addS, srcOf_nil]
   rw [hS] at this
   exact this
  ·cases h
 ·rename_i d hne
  split at h
  ·rename_i hc
   simp only [Bool.and_eq_true, decide_eq_true_eq] at hc
   obtain ⟨⟨⟨h1, h2⟩, h3⟩, h4⟩ := hc
   simp only [Option.some.injEq, Prod.mk.injEq] at h
   obtain ⟨rfl, rfl⟩ := h
   refine ⟨addC cB cP n (dedup (locsOf n r)) L (1000 * (d + 1)), rfl, mk _ (hmk _ h1 fun l hl => ?_)⟩
   cases hs : srcOf (dedup (locsOf n r)) L (1000 * (d + 1)) l with
   | none => exact absurd hs hl
   | some q =>
    unfold srcOf at hs
    split at hs
    ·rename_i hlv
     have hlen := (List.getElem?_eq_some_iff.1 hs).1
     have := List.all_eq_true.1 h4 (l.2 - 1000 * (d + 1)) (by simpa using hlen)
     simp only [Option.isNone_iff_eq_none] at this
     have e : (L, 1000 * (d + 1) + (l.2 - 1000 * (d + 1))) = l := by
      ext
      ·exact hlv.1.symm
      ·have := hlv.2
       show 1000 * (d + 1) + (l.2 - 1000 * (d + 1)) = l.2
       exact Nat.add_sub_cancel' this
     rw [e] at this
     exact this
    ·cases hs
  ·cases h
 ·cases h
theorem setRo_nil (S : Store) : setRo S [] = S := by
 funext l
 unfold setRo
 cases S l with
 | none => rfl
 | some o => cases o <;> simp
theorem cut_rep {L : Nat} {c : Ctx} {t : T} {v : Value} (ht : lvle L t = true) (hv : Rep c t v) : Rep (cut L c) t v := by
 have hm : Move c (cut L c) (fun l => if l.1 ≤ L then some l else none) (fun l => decide (L < l.1)) := by
  refine ⟨rfl, ?_, ?_, ?_, ?_, fun l hz hS => ?_⟩
  ·intro l m hf hz; simp at hf hz; omega
  ·intro l m hf hz; simp at hf hz; omega
  ·intro l m hf hz; simp at hf hz; omega
  ·intro l m hf hz; simp at hf hz; omega
  ·simp at hz
   refine ⟨by simp [hz], by simp [cut, trunc, hz], fun hD => ⟨⟨hD, hz⟩, rfl⟩⟩
 have := rename_rep hm t (.inl fun x hx => hx) hv
 rwa [rename_id (k := L) (fun l hl => by simp; omega) t ht] at this
theorem cut_repL {L : Nat} {c : Ctx} : ∀ {ts : List T} {vs : List Value}, lvleL L ts = true → RepL c ts vs → RepL (cut L c) ts vs
 | [], vs, _, hv => by cases hv; exact .nil
 | x :: xs, vs, hl, hv => by
  simp only [lvleL, Bool.and_eq_true] at hl
  cases hv with
  | cons _ v _ vs hx hr => exact .cons _ _ _ _ (cut_rep hl.1 hx) (cut_repL hl.2 hr)
theorem lay_lo {L : Nat} {S1 S : Store} {l : Loc} (h : l.1 ≤ L) : lay L S1 S l = S1 l := by
 unfold lay; rw [Nat.ble_eq_true_of_le h]; rfl
theorem lay_hi {L : Nat} {S1 S : Store} {l : Loc} (h : ¬ l.1 ≤ L) : lay L S1 S l = S l := by
 unfold lay
 have : Nat.ble l.1 L = false := by
  cases hb : Nat.ble l.1 L with
  | false => rfl
  | true => exact absurd (Nat.le_of_ble_eq_true hb) h
 rw [this]; rfl
def layC (L : Nat) (cP a : Ctx) : Ctx := ⟨lay L cP.S a.S, fun l => (l.1 ≤ L ∧ cP.D l) ∨ (¬ l.1 ≤ L ∧ a.D l), fun l => if l.1 ≤ L then cP.β l else a.β l, cP.Sh, cP.w⟩
theorem low_sound {L : Nat} {a : Ctx} (hi : Inv (L + 1) a) {r : T} {S1 : Store} {v : Value} {cP : Ctx} (h : Left L (cut L a) r S1 v cP) :
  (layC L cP a).S = lay L S1 a.S ∧ Inv (L + 1) (layC L cP a) ∧ (lvle L r = true → Rep (layC L cP a) r v) ∧ Kept a (layC L cP a) ∧ Fr a (layC L cP a) ∧ ∀ l, (layC L cP a).D l → a.D l ∨ 1 ≤ l.1 := by
 have Slo : ∀ {l : Loc}, l.1 ≤ L → (layC L cP a).S l = cP.S l := fun h => lay_lo h
 have Shi : ∀ {l : Loc}, ¬ l.1 ≤ L → (layC L cP a).S l = a.S l := fun h => lay_hi h
 have Dlo : ∀ {l : Loc}, l.1 ≤ L → ((layC L cP a).D l ↔ cP.D l) := fun {l} h => ⟨fun x => x.elim (fun y => y.2) (fun y => absurd h y.1), fun x => .inl ⟨h, x⟩⟩
 have Dhi : ∀ {l : Loc}, ¬ l.1 ≤ L → ((layC L cP a).D l ↔ a.D l) := fun {l} h => ⟨fun x => x.elim (fun y => absurd y.1 h) (fun y => y.2), fun x => .inr ⟨h, x⟩⟩
 have Blo : ∀ {l : Loc}, l.1 ≤ L → (layC L cP a).β l = cP.β l := fun {l} h => by simp [layC, h]
 have Bhi : ∀ {l : Loc}, ¬ l.1 ≤ L → (layC L cP a).β l = a.β l := fun {l} h => by simp [layC, h]
 have Mlo : ∀ {l : Loc}, l.1 ≤ L → Mut (layC L cP a) l → Mut cP l := fun {l} h hm => by unfold Mut at hm ⊢; rwa [Slo h] at hm
 have Mhi : ∀ {l : Loc}, ¬ l.1 ≤ L → Mut (layC L cP a) l → Mut a l := fun {l} h hm => by unfold Mut at hm ⊢; rwa [Shi h] at hm
 have sh : ∀ b, a.Sh b → cP.Sh b ∧ cP.w.heap[b]? = a.w.heap[b]? := fun b hb => h.kept.sh b hb
 have blk : ∀ l : Loc, ¬ l.1 ≤ L → a.D l → Mut a l → cP.w.heap[a.β l]? = a.w.heap[a.β l]? := fun l hl hD hm =>
  h.fr.blk _ (hi.rel.mutLt hD hm) fun l' hD' hm' he => by
   have := hi.rel.inj l' l hD'.1 hD (cut_mut hm') hm he
   subst this
   exact hl hD'.2
 have kA : Kept a (layC L cP a) := by
  refine ⟨sh, fun l hl => ?_, fun l ro g sz e xs hS => ?_, fun l hS => ?_⟩
  ·obtain ⟨hD, bt, cs, hS⟩ := hl
   by_cases hl : l.1 ≤ L
   ·obtain ⟨⟨hD', bt', cs', hS'⟩, hβ⟩ := h.kept.box l ⟨⟨hD, hl⟩, bt, cs, trunc_some.2 ⟨hl, hS⟩⟩
    exact ⟨⟨(Dlo hl).2 hD', bt', cs', by rw [Slo hl]; exact hS'⟩, by rw [Blo hl]; exact hβ⟩
   ·exact ⟨⟨(Dhi hl).2 hD, bt, cs, by rw [Shi hl]; exact hS⟩, Bhi hl⟩
  ·by_cases hl : l.1 ≤ L
   ·rw [Slo hl, Blo hl]
    rcases h.kept.arr l ro g sz e xs (trunc_some.2 ⟨hl, hS⟩) with hg | ⟨ro', g', sz', e', xs', h1, h2, h3⟩
    ·exact .inl hg
    ·refine .inr ⟨ro', g', sz', e', xs', h1, h2, fun hg => ?_⟩
     obtain ⟨a1, a2, a3, a4⟩ := h3 hg
     exact ⟨a1, a2, a3, fun hD => ⟨(Dlo hl).2 (a4 ⟨hD, hl⟩).1, (a4 ⟨hD, hl⟩).2.1, (a4 ⟨hD, hl⟩).2.2⟩⟩
   ·rw [Shi hl, Bhi hl]
    refine .inr ⟨ro, g, sz, e, xs, hS, Nat.le_refl _, fun _ => ⟨rfl, rfl, rfl, fun hD => ⟨(Dhi hl).2 hD, rfl, fun cur fz hh => ⟨cur, fz, ?_, rfl⟩⟩⟩⟩
    show cP.w.heap[a.β l]? = _
    cases ro with
    | true =>
     obtain ⟨_, _, _, _, _, h3, _⟩ := hi.rel.arr l true g sz e xs hD hS
     rw [(sh _ (h3 rfl)).2]; exact hh
    | false => rw [blk l hl hD (by unfold Mut; rw [hS])]; exact hh
  ·by_cases hl : l.1 ≤ L
   ·rw [Slo hl]; exact h.kept.gone l (trunc_some.2 ⟨hl, hS⟩)
   ·rw [Shi hl]; exact hS
 have kP : Kept (cut L cP) (layC L cP a) := by
  refine ⟨fun b hb => ⟨hb, rfl⟩, fun l hl => ?_, fun l ro g sz e xs hS => ?_, fun l hS => ?_⟩
  ·obtain ⟨hD, bt, cs, hS⟩ := hl
   exact ⟨⟨(Dlo hD.2).2 hD.1, bt, cs, by rw [Slo hD.2]; exact (trunc_some.1 hS).2⟩, Blo hD.2⟩
  ·obtain ⟨hl, hS⟩ := trunc_some.1 hS
   rw [Slo hl, Blo hl]
   exact .inr ⟨ro, g, sz, e, xs, hS, Nat.le_refl _, fun _ => ⟨rfl, rfl, rfl, fun hD => ⟨(Dlo hl).2 hD.1, rfl, fun cur fz hh => ⟨cur, fz, hh, rfl⟩⟩⟩⟩
  ·obtain ⟨hl, hS⟩ := trunc_some.1 hS
   rw [Slo hl]; exact hS
 have iP : Inv L (cut L cP) := cut_inv h.inv
 have own : ∀ l : Loc, l.1 ≤ L → cP.D l → Mut cP l → ∀ m : Loc, ¬ m.1 ≤ L → a.D m → Mut a m → cP.β l ≠ a.β m := fun l hl hD hm m hm1 hDm hmm he => by
  rcases h.fr.own l hD hm with ⟨h1, h2, h3⟩ | h1
  ·have h3 : cP.β l = a.β l := h3
   have := hi.rel.inj l m h1.1 hDm (cut_mut h2) hmm (by rw [← h3, he])
   subst this
   exact hm1 hl
  ·have h1 : a.w.heap.size ≤ cP.β l := h1
   have := hi.rel.mutLt hDm hmm
   omega
 refine ⟨by show lay L cP.S a.S = _; rw [h.S], ⟨⟨fun l bt cs hD hS => ?_, fun l ro g sz e xs hD hS => ?_, fun l hD hm => ?_, fun l l' hD hD' hm hm' he => ?_, h.inv.rel.lt, fun l hD => ?_⟩, fun l hD => ?_, fun l hS => ?_⟩,
  fun hcl => (cut_rep hcl h.rep).kept kP, kA, ⟨h.fr.os, h.fr.tape, h.fr.output, h.fr.size, fun b hb hn => ?_, fun l hD hm => ?_, fun b hb => ?_⟩, fun l hD => ?_⟩
 ·by_cases hl : l.1 ≤ L
  ·obtain ⟨h1, vs, h3, h4⟩ := iP.rel.box l bt cs ⟨(Dlo hl).1 hD, hl⟩ (trunc_some.2 ⟨hl, by rwa [Slo hl] at hS⟩)
   exact ⟨h1, vs, by rw [Blo hl]; exact h3, h4.kept kP⟩
  ·rw [Shi hl] at hS
   obtain ⟨h1, vs, h3, h4⟩ := hi.rel.box l bt cs ((Dhi hl).1 hD) hS
   exact ⟨h1, vs, by rw [Bhi hl]; exact (blk l hl ((Dhi hl).1 hD) (by unfold Mut; rw [hS]; trivial)).trans h3, h4.kept kA⟩
 ·by_cases hl : l.1 ≤ L
  ·obtain ⟨cur, fz, vs, h1, h2, h3, h4, h5⟩ := iP.rel.arr l ro g sz e xs ⟨(Dlo hl).1 hD, hl⟩ (trunc_some.2 ⟨hl, by rwa [Slo hl] at hS⟩)
   exact ⟨cur, fz, vs, by rw [Blo hl]; exact h1, h2, fun hr => by rw [Blo hl]; exact h3 hr, repE_kept (c := cut L cP) (c' := layC L cP a) (fun b hb => ⟨hb, rfl⟩) h4, h5⟩
  ·rw [Shi hl] at hS
   have hD := (Dhi hl).1 hD
   obtain ⟨cur, fz, vs, h1, h2, h3, h4, h5⟩ := hi.rel.arr l ro g sz e xs hD hS
   refine ⟨cur, fz, vs, ?_, h2, fun hr => by rw [Bhi hl]; exact (sh _ (h3 hr)).1, repE_kept (c := a) (c' := layC L cP a) sh h4, h5⟩
   rw [Bhi hl]
   show cP.w.heap[a.β l]? = _
   cases ro with
   | true => rw [(sh _ (h3 rfl)).2]; exact h1
   | false => rw [blk l hl hD (by unfold Mut; rw [hS])]; exact h1
 ·by_cases hl : l.1 ≤ L
  ·rw [Blo hl]; exact h.inv.rel.nsh l ((Dlo hl).1 hD) (Mlo hl hm)
  ·rw [Bhi hl]
   intro hs
   have hD := (Dhi hl).1 hD
   have hm := Mhi hl hm
   rcases h.fr.shn _ hs with h1 | h1 | ⟨l', h1, h2, h3⟩
   ·exact hi.rel.nsh l hD hm h1
   ·have h1 : a.w.heap.size ≤ a.β l := h1
    have := hi.rel.mutLt hD hm
    omega
   ·have := hi.rel.inj l' l h1.1 hD (cut_mut h2) hm h3
    subst this
    exact hl h1.2
 ·by_cases hl : l.1 ≤ L <;> by_cases hl' : l'.1 ≤ L
  ·rw [Blo hl, Blo hl'] at he
   exact h.inv.rel.inj l l' ((Dlo hl).1 hD) ((Dlo hl').1 hD') (Mlo hl hm) (Mlo hl' hm') he
  ·rw [Blo hl, Bhi hl'] at he
   exact absurd he (own l hl ((Dlo hl).1 hD) (Mlo hl hm) l' hl' ((Dhi hl').1 hD') (Mhi hl' hm'))
  ·rw [Bhi hl, Blo hl'] at he
   exact absurd he.symm (own l' hl' ((Dlo hl').1 hD') (Mlo hl' hm') l hl ((Dhi hl).1 hD) (Mhi hl hm))
  ·rw [Bhi hl, Bhi hl'] at he
   exact hi.rel.inj l l' ((Dhi hl).1 hD) ((Dhi hl').1 hD') (Mhi hl hm) (Mhi hl' hm') he
 ·by_cases hl : l.1 ≤ L
  ·rw [Slo hl]; exact h.inv.rel.dom l ((Dlo hl).1 hD)
  ·rw [Shi hl]; exact hi.rel.dom l ((Dhi hl).1 hD)
 ·by_cases hl : l.1 ≤ L
  ·omega
  ·exact hi.lev l ((Dhi hl).1 hD)
 ·by_cases hl : l.1 ≤ L
  ·rw [Slo hl] at hS; exact (Dlo hl).2 (h.inv.full l hS)
  ·rw [Shi hl] at hS; exact (Dhi hl).2 (hi.full l hS)
 ·exact h.fr.blk b hb fun l hD hm => hn l hD.1 (cut_mut hm)
 ·by_cases hl : l.1 ≤ L
  ·rw [Blo hl]
   rcases h.fr.own l ((Dlo hl).1 hD) (Mlo hl hm) with ⟨h1, h2, h3⟩ | h1
   ·exact .inl ⟨h1.1, cut_mut h2, h3⟩
   ·exact .inr h1
  ·exact .inl ⟨(Dhi hl).1 hD, Mhi hl hm, Bhi hl⟩
 ·rcases h.fr.shn b hb with h1 | h1 | ⟨l, h1, h2, h3⟩
  ·exact .inl h1
  ·exact .inr (.inl h1)
  ·exact .inr (.inr ⟨l, h1.1, cut_mut h2, h3⟩)
 ·by_cases hl : l.1 ≤ L
  ·exact (h.new l ((Dlo hl).1 hD)).imp (fun h => h.1) id
  ·exact .inl ((Dhi hl).1 hD)
theorem boxC_some {S : Store} {l : Loc} (h : boxC S l = true) : ∃ bt cs, S l = some (.box bt cs) ∧ closedL cs = true := by
 unfold boxC at h
 split at h
 ·rename_i bt cs hS; exact ⟨bt, cs, hS, h⟩
 ·cases h
def onlyC (l : Loc) (c : Ctx) : Ctx := { c with S := only l c.S, D := fun m => c.D m ∧ m = l }
def lay1C (l : Loc) (cP a : Ctx) : Ctx := ⟨lay1 l cP.S a.S, a.D, a.β, cP.Sh, cP.w⟩
theorem only_some {l m : Loc} {S : Store} {o : Obj} (h : only l S m = some o) : m = l ∧ S m = some o := by
 unfold only at h
 split at h
 ·rename_i e; exact ⟨e, h⟩
 ·cases h
theorem only_mut {l m : Loc} {c : Ctx} (h : Mut (onlyC l c) m) : Mut c m := by
 unfold Mut at h ⊢
 cases hS : (onlyC l c).S m with
 | none => rw [hS] at h; exact h.elim
 | some o =>
  rw [hS] at h
  rw [(only_some hS).2]; exact h
theorem only_inv {L : Nat} {l : Loc} {c : Ctx} (hi : Inv L c) (hb : boxC c.S l = true) : Inv L (onlyC l c) := by
 obtain ⟨bt, cs, hS, hcs⟩ := boxC_some hb
 refine ⟨⟨fun m bt' cs' hD hm => ?_, fun m ro g sz e xs hD hm => ?_, fun m hD hm => hi.rel.nsh m hD.1 (only_mut hm), fun m m' hD hD' hm hm' he => hD.2.trans hD'.2.symm, hi.rel.lt, fun m hD => ?_⟩, fun m hD => hi.lev m hD.1, fun m hm => ?_⟩
 ·obtain ⟨rfl, hm2⟩ := only_some hm
  rw [hS] at hm2
  obtain ⟨rfl, rfl⟩ : bt = bt' ∧ cs = cs' := by simpa using hm2
  obtain ⟨h1, vs, h3, h4⟩ := hi.rel.box m _ _ hD.1 hS
  exact ⟨h1, vs, h3, closedL_kept (c := c) (c' := onlyC m c) (fun b hb => ⟨hb, rfl⟩) hcs h4⟩
 ·obtain ⟨rfl, hm2⟩ := only_some hm
  rw [hS] at hm2; simp at hm2
 ·obtain ⟨h1, rfl⟩ := hD
  show only m c.S m ≠ none
  unfold only
  rw [if_pos rfl]
  exact hi.rel.dom m h1
 ·have hm : only l c.S m ≠ none := hm
  unfold only at hm
  split at hm
  ·rename_i e; exact ⟨hi.full m hm, e⟩
  ·exact absurd rfl hm
theorem lay1_at {l : Loc} {S1 S : Store} : lay1 l S1 S l = S1 l := by unfold lay1; rw [if_pos rfl]
theorem lay1_ne {l m : Loc} {S1 S : Store} (h : ¬ m = l) : lay1 l S1 S m = S m := by unfold lay1; rw [if_neg h]
theorem one_sound {L : Nat} {l : Loc} {a : Ctx} (hi : Inv L a) (hb : boxC a.S l = true) {r : T} {S1 : Store} {v : Value} {cP : Ctx} (h : Left L (onlyC l a) r S1 v cP) (hr : closed r = true) (hb1 : boxC S1 l = true) :
  (lay1C l cP a).S = lay1 l S1 a.S ∧ Inv L (lay1C l cP a) ∧ Rep (lay1C l cP a) r v ∧ Kept a (lay1C l cP a) ∧ Fr a (lay1C l cP a) := by
 obtain ⟨bt, cs, hS, hcs⟩ := boxC_some hb
 rw [← h.S] at hb1
 obtain ⟨bt1, cs1, hS1, hcs1⟩ := boxC_some hb1
 have hDl : a.D l := hi.full l (by rw [hS]; simp)
 have hml : Mut a l := by unfold Mut; rw [hS]; trivial
 have hol : (onlyC l a).S l = some (.box bt cs) := by show only l a.S l = _; unfold only; rw [if_pos rfl, hS]
 obtain ⟨⟨hDP, _⟩, hβ⟩ := h.kept.box l ⟨⟨hDl, rfl⟩, bt, cs, hol⟩
 have hβ : cP.β l = a.β l := hβ
 have sh : ∀ b, a.Sh b → cP.Sh b ∧ cP.w.heap[b]? = a.w.heap[b]? := fun b hb => h.kept.sh b hb
 have Sat : (lay1C l cP a).S l = some (.box bt1 cs1) := by show lay1 l cP.S a.S l = _; rw [lay1_at, hS1]
 have Sne : ∀ {m : Loc}, ¬ m = l → (lay1C l cP a).S m = a.S m := fun hm => lay1_ne hm
 have blk : ∀ m : Loc, ¬ m = l → a.D m → Mut a m → cP.w.heap[a.β m]? = a.w.heap[a.β m]? := fun m hne hD hm =>
  h.fr.blk _ (hi.rel.mutLt hD hm) fun l' hD' hm' he => hne ((hi.rel.inj l' m hD'.1 hD (only_mut hm') hm he).symm.trans hD'.2)
 have mt : ∀ {m : Loc}, Mut (lay1C l cP a) m → Mut a m := fun {m} hm => by
  by_cases hne : m = l
  ·subst hne; exact hml
  ·unfold Mut at hm ⊢; rwa [Sne hne] at hm
 have kA : Kept a (lay1C l cP a) := by
  refine ⟨sh, fun m hl => ?_, fun m ro g sz e xs hm => ?_, fun m hm => ?_⟩
  ·by_cases hne : m = l
   ·subst hne; exact ⟨⟨hDl, _, _, Sat⟩, rfl⟩
   ·obtain ⟨hD, bt', cs', hm⟩ := hl
    exact ⟨⟨hD, bt', cs', by rw [Sne hne]; exact hm⟩, rfl⟩
  ·have hne : ¬ m = l := fun e => by subst e; rw [hS] at hm; simp at hm
   rw [Sne hne]
   refine .inr ⟨ro, g, sz, e, xs, hm, Nat.le_refl _, fun _ => ⟨rfl, rfl, rfl, fun hD => ⟨hD, rfl, fun cur fz hh => ⟨cur, fz, ?_, rfl⟩⟩⟩⟩
   show cP.w.heap[a.β m]? = _
   cases ro with
   | true =>
    obtain ⟨_, _, _, _, _, h3, _⟩ := hi.rel.arr m true g sz e xs hD hm
    rw [(sh _ (h3 rfl)).2]; exact hh
   | false => rw [blk m hne hD (by unfold Mut; rw [hm])]; exact hh
  ·have hne : ¬ m = l := fun e => by subst e; rw [hS] at hm; simp at hm
   rw [Sne hne]; exact hm
 refine ⟨by show lay1 l cP.S a.S = _; rw [h.S], ⟨⟨fun m bt' cs' hD hm => ?_, fun m ro g sz e xs hD hm => ?_, fun m hD hm => ?_, fun m m' hD hD' hm hm' he => hi.rel.inj m m' hD hD' (mt hm) (mt hm') he, h.inv.rel.lt, fun m hD => ?_⟩, hi.lev, fun m hm => ?_⟩,
  closed_kept (c := cP) (c' := lay1C l cP a) (fun b hb => ⟨hb, rfl⟩) hr h.rep, kA, ⟨h.fr.os, h.fr.tape, h.fr.output, h.fr.size, fun b hb hn => ?_, fun m hD hm => .inl ⟨hD, mt hm, rfl⟩, fun b hb => ?_⟩⟩
 ·by_cases hne : m = l
  ·subst hne
   rw [Sat] at hm
   obtain ⟨rfl, rfl⟩ : bt1 = bt' ∧ cs1 = cs' := by simpa using hm
   obtain ⟨h1, vs, h3, h4⟩ := h.inv.rel.box m _ _ hDP hS1
   exact ⟨h1, vs, by rw [hβ] at h3; exact h3, closedL_kept (c := cP) (c' := lay1C m cP a) (fun b hb => ⟨hb, rfl⟩) hcs1 h4⟩
  ·rw [Sne hne] at hm
   obtain ⟨h1, vs, h3, h4⟩ := hi.rel.box m bt' cs' hD hm
   exact ⟨h1, vs, (blk m hne hD (by unfold Mut; rw [hm]; trivial)).trans h3, h4.kept kA⟩
 ·have hne : ¬ m = l := fun e => by subst e; rw [Sat] at hm; simp at hm
  rw [Sne hne] at hm
  obtain ⟨cur, fz, vs, h1, h2, h3, h4, h5⟩ := hi.rel.arr m ro g sz e xs hD hm
  refine ⟨cur, fz, vs, ?_, h2, fun hr => (sh _ (h3 hr)).1, repE_kept (c := a) (c' := lay1C l cP a) sh h4, h5⟩
  show cP.w.heap[a.β m]? = _
  cases ro with
  | true => rw [(sh _ (h3 rfl)).2]; exact h1
  | false => rw [blk m hne hD (by unfold Mut; rw [hm])]; exact h1
 ·by_cases hne : m = l
  ·subst hne
   show ¬ cP.Sh (a.β m)
   rw [← hβ]
   exact h.inv.rel.nsh m hDP (by unfold Mut; rw [hS1]; trivial)
  ·intro hs
   have hm := mt hm
   rcases h.fr.shn _ hs with h1 | h1 | ⟨l', h1, h2, h3⟩
   ·exact hi.rel.nsh m hD hm h1
   ·have h1 : a.w.heap.size ≤ a.β m := h1
    have := hi.rel.mutLt hD hm
    omega
   ·have := hi.rel.inj l' m h1.1 hD (only_mut h2) hm h3
    exact hne (this.symm.trans h1.2)
 ·by_cases hne : m = l
  ·subst hne; rw [Sat]; simp
  ·rw [Sne hne]; exact hi.rel.dom m hD
 ·by_cases hne : m = l
  ·subst hne; exact hDl
  ·rw [Sne hne] at hm; exact hi.full m hm
 ·exact h.fr.blk b hb fun l' hD hm => hn l' hD.1 (only_mut hm)
 ·rcases h.fr.shn b hb with h1 | h1 | ⟨l', h1, h2, h3⟩
  ·exact .inl h1
  ·exact .inr (.inl h1)
  ·exact .inr (.inr ⟨l', h1.1, only_mut h2, h3⟩)
def StpPost (L : Nat) (c : Ctx) (re : Res) : Ending → World → Prop
 | .returned v, w' => ∃ c', c'.w = w' ∧ Stp L c re.S re.t v c'
 | _, _ => False
theorem goT_sound {P : Program} {γ : Glob} {call : CallF} (hcall : CallOk P γ call) {om : FuncId → List Nat} {L : Nat} {d : Option Tmp} {c : Ctx} (hi : Inv L c) (hg : Good γ c) {g : FuncId} {args caps : List T} {re : Res}
  (h : goT call om L d c.S g args caps = some re) {avs cvs : List Value} (ha : RepL c args avs) (hc : RepL c caps cvs) :
  Entered P g ∧ Calls P g (avs ++ cvs).toArray c.w (StpPost L c re) := by
 unfold goT at h
 split at h
 ·rename_i as ls hsn
  have hi1 := inv_shut hi ls
  have hag := snapArgs_shut hi.rel hsn ha
  have hcg := hc.kept (ctxShut_kept c ls)
  split at h
  ·rename_i hcl
   simp only [plainC, Bool.and_eq_true, List.isEmpty_iff] at hcl
   obtain ⟨⟨hcl, rfl⟩, _⟩ := hcl
   cases hcg
   split at h
   ·rename_i r S1 hcallr
    cases htk : takeIn 1 L d r S1 (keepS ls r S1 c.S) with
    | none => simp [htk] at h
    | some p =>
     obtain ⟨r', S2⟩ := p
     simp only [htk, Option.map_some, Option.some.injEq] at h
     subst h
     obtain ⟨hent, hcs⟩ := hcall _ _ _ _ _ _ hcallr
     refine ⟨hent, ?_⟩
     have hc1 : Inv 0 ({ S := emp, D := fun _ => False, β := c.β, Sh := (ctxShut c ls).Sh, w := c.w } : Ctx) :=
      ⟨⟨fun l bt cs hD => hD.elim, fun l ro g sz e xs hD => hD.elim, fun l hD => hD.elim, fun l l' hD => hD.elim, hi1.rel.lt, fun l hD => hD.elim⟩, fun l hD => hD.elim, fun l hl => absurd rfl hl⟩
     have := hcs _ (avs ++ []) rfl hc1 ⟨hg.1, fun b hb => .inl (hg.2 b hb)⟩ (by
      rw [List.append_nil]
      exact closedL_kept (c := ctxShut c ls) (c' := { S := emp, D := fun _ => False, β := c.β, Sh := (ctxShut c ls).Sh, w := c.w }) (fun b hb => ⟨hb, rfl⟩) hcl hag)
     refine Calls.mono this fun e w' he => ?_
     cases e with
     | panicked ch => exact he.elim
     | outgrown => exact he.elim
     | returned v =>
      obtain ⟨cP, rfl, hL⟩ := he
      have hold : ∀ b, b < c.w.heap.size → cP.w.heap[b]? = c.w.heap[b]? := fun b hb => hL.fr.blk b hb fun l hD => hD.elim
      have hlow : ∀ l, l.1 < 1 → cP.S l ≠ none → False := fun l hl hS => by
       rcases hL.new l (hL.inv.full l hS) with h | h
       ·exact h
       ·omega
      have hqs : ∀ q, cP.D q → Mut cP q → c.w.heap.size ≤ cP.β q := fun q hD hm => by
       rcases hL.fr.own q hD hm with ⟨h, _⟩ | h
       ·exact h.elim
       ·exact h
     
      have fin : ∀ a : Ctx, a.w = c.w → Inv L a → Kept c a → Fr c a → (∀ l, a.D l → c.D l) → a.S = keepS ls r S1 c.S →
        (∀ Sh' : Nat → Prop, (∀ b, a.Sh b → Sh' b) → (∀ b, Sh' b → b < cP.w.heap.size) → (∀ b, Sh' b → a.Sh b ∨ c.w.heap.size ≤ b) → ((∀ b, cP.Sh b → Sh' b) ∨ (hasLst r = false ∧ arrLst S1 (dedup (locsOf 1 r)) = false)) →
         (∀ q, cP.D q → Mut cP q → ¬ Sh' (cP.β q)) →
         StpPost L c ⟨r', S2, 1⟩ (.returned v) cP.w) := by
       intro a haw hia hka hfa hDa hSa Sh' s1 s2 s3 s4 s5
       obtain ⟨hiB, hkB, hfB⟩ := late hia (w' := cP.w) (Sh' := Sh') ⟨by rw [haw]; exact hL.fr.os, by rw [haw]; exact hL.fr.tape, by rw [haw]; exact hL.fr.output⟩ (by rw [haw]; exact hL.fr.size)
        (by rw [haw]; exact hold) s1 s2 (by rw [haw]; exact s3)
       have htk' : takeIn 1 L d r cP.S ({ a with Sh := Sh', w := cP.w } : Ctx).S = some (r', S2) := by
        show takeIn 1 L d r cP.S a.S = _
        rw [hL.S, hSa]; exact htk
       refine Exists.elim (takeIn_sound (a := c) htk' hL.rep (s4.imp id fun h => h.1) (fun k hok hf => ?_) (hfa.trans hfB) (fun q _ hD hm => hqs q hD hm)) fun c' hc' => ?_
       rotate_left
       ·obtain ⟨hw', hT⟩ := hc'
        refine ⟨c', hw', ?_⟩
        exact ⟨hT.inv.rel, hka.trans (hkB.trans hT.kept), hT.fr, hT.S, hT.rep, hT.inv.lev, fun l hl => (hT.new l hl).imp (hDa l) .inl, fun _ => hT.inv.full⟩
       ·refine ⟨hL.inv, hiB, rfl, by omega, by omega, fun q hq => locsOf_lev r (mem_dedup.1 hq), nodup_dedup _, hok, hf, fun l hl hS => (hlow l hl hS).elim, s4.imp id fun h => by rw [hL.S]; exact h.2, fun q hq hD hm => ⟨s5 q hD hm, fun l hD' hm' he => ?_⟩⟩
        have h1 := hia.rel.mutLt (l := l) hD' hm'
        have h2 := hqs q hD hm
        rw [haw] at h1
        have : a.β l = cP.β q := he
        omega
      have cut1 : ∀ b, cP.Sh b → (ctxShut c ls).Sh b ∨ c.w.heap.size ≤ b := fun b hb => by
       rcases hL.fr.shn b hb with h | h | ⟨l, h, _⟩
       ·exact .inl h
       ·exact .inr h
       ·exact h.elim
      have shutWay : setRo c.S ls = keepS ls r S1 c.S → StpPost L c ⟨r', S2, 1⟩ (.returned v) cP.w := fun hk =>
       fin (ctxShut c ls) rfl hi1 (ctxShut_kept c ls) (ctxShut_fr hi.rel ls) (fun l h => h) hk cP.Sh (fun b hb => (hL.kept.sh b hb).1) hL.inv.rel.lt cut1 (.inl fun b hb => hb) (fun q hD hm => hL.inv.rel.nsh q hD hm)
      by_cases hb : (!ls.isEmpty && (hasLst r || arrLst S1 (dedup (locsOf 1 r)))) = true
      ·exact shutWay (by simp [keepS, hb])
      ·have hk : keepS ls r S1 c.S = c.S := by simp only [keepS]; rw [Bool.not_eq_true] at hb; rw [hb]; rfl
       cases hls : ls with
       | nil => exact shutWay (by rw [hk, hls, setRo_nil])
       | cons x xs =>
        have hb' : hasLst r = false ∧ arrLst S1 (dedup (locsOf 1 r)) = false := by
         rw [hls] at hb
         simpa using hb
        refine fin c rfl hi (.refl c) (.refl c) (fun l h => h) hk.symm c.Sh (fun b h => h) (fun b h => ?_) (fun b h => .inl h) (.inr hb') (fun q hD hm h => ?_)
        ·have := hi.rel.lt b h
         have := hL.fr.size
         have e : ({ S := emp, D := fun _ => False, β := c.β, Sh := (ctxShut c ls).Sh, w := c.w } : Ctx).w.heap.size = c.w.heap.size := rfl
         omega
        ·have := hi.rel.lt _ h
         have := hqs q hD hm
         omega
   ·cases h
  split at h
  ·rename_i hlow
   unfold lowC at hlow
   simp only [Bool.and_eq_true] at hlow
   obtain ⟨⟨_, h0⟩, hlv⟩ := hlow
   have h0 : 0 < L := by rw [Nat.blt_eq] at h0; exact h0
   obtain ⟨L0, rfl⟩ : ∃ L0, L = L0 + 1 := ⟨L - 1, by omega⟩
   rw [Nat.add_sub_cancel] at h hlv
   split at h
   ·rename_i r S1 hcallr
    cases htk : lowTake (L0 + 1) d r S1 (lay L0 S1 (setRo c.S ls)) with
    | none => simp [htk] at h
    | some p =>
     obtain ⟨r', S2⟩ := p
     simp only [htk, Option.map_some, Option.some.injEq] at h
     subst h
     obtain ⟨hent, hcs⟩ := hcall _ _ _ _ _ _ hcallr
     refine ⟨hent, ?_⟩
     have := hcs (cut L0 (ctxShut c ls)) (avs ++ cvs) rfl (cut_inv hi1) (hg.kept (ctxShut_kept c ls).sh) (cut_repL hlv (hag.append hcg))
     refine Calls.mono this fun e w' he => ?_
     cases e with
     | panicked ch => exact he.elim
     | outgrown => exact he.elim
     | returned v =>
      obtain ⟨cP, rfl, hL⟩ := he
      obtain ⟨a1, a2, a3, a4, a5, a6⟩ := low_sound hi1 hL
      unfold lowTake at htk
      rw [Nat.add_sub_cancel] at htk
      split at htk
      ·rename_i hcr
       simp only [Option.some.injEq, Prod.mk.injEq] at htk
       obtain ⟨rfl, rfl⟩ := htk
       exact ⟨layC L0 cP (ctxShut c ls), rfl, a2.rel, (ctxShut_kept c ls).trans a4, (ctxShut_fr hi.rel ls).trans a5, a1, a3 hcr, a2.lev, fun l hl => (a6 l hl).imp id .inr, fun _ => a2.full⟩
      ·split at htk
       ·split at htk
        ·rename_i u S3 htk2
         split at htk
         ·cases htk
         ·simp only [Option.some.injEq, Prod.mk.injEq] at htk
          obtain ⟨rfl, rfl⟩ := htk
          have hq : ∀ q : Loc, q.1 = L0 + 1 → cP.D q → Mut cP q → (ctxShut c ls).w.heap.size ≤ cP.β q := fun q hq hD hm => by
           rcases hL.fr.own q hD hm with ⟨h1, _, _⟩ | h1
           ·have := h1.2
            omega
           ·exact h1
          have hlev : ∀ q ∈ dedup (locsOf (L0 + 1) r), q.1 = L0 + 1 := fun q hq => locsOf_lev r (mem_dedup.1 hq)
          have htk' : takeIn (L0 + 1) (L0 + 1) d r cP.S (layC L0 cP (ctxShut c ls)).S = some (u, S3) := by
           rw [a1, hL.S]; exact htk2
          refine Exists.elim (takeIn_sound (a := ctxShut c ls) htk' hL.rep (.inl fun b h => h) (fun k hok hf => ?_) a5 (fun q hq' hD hm => hq q (hlev q hq') hD hm)) fun c' hc' => ?_
          rotate_left
          ·obtain ⟨hw', hT⟩ := hc'
           refine ⟨c', hw', hT.inv.rel, (ctxShut_kept c ls).trans (a4.trans hT.kept), (ctxShut_fr hi.rel ls).trans hT.fr, hT.S, hT.rep, hT.inv.lev, fun l hl => ?_, fun _ => hT.inv.full⟩
           rcases hT.new l hl with h1 | h1
           ·exact (a6 l h1).imp id .inr
           ·exact .inr (.inr (by omega))
          ·refine ⟨hL.inv, a2, rfl, by omega, by omega, hlev, nodup_dedup _, hok, hf, fun l hl hS => ?_, .inl fun b h => h, fun q hq' hD hm => ⟨hL.inv.rel.nsh q hD hm, fun l hD' hm' he => ?_⟩⟩
           ·have hl : l.1 ≤ L0 := by omega
            exact ⟨lay_lo hl, fun hD => ⟨.inl ⟨hl, hD⟩, by simp [layC, hl]⟩⟩
           ·have hq1 := hlev q hq'
            by_cases hl : l.1 ≤ L0
            ·have e1 : (layC L0 cP (ctxShut c ls)).β l = cP.β l := by simp [layC, hl]
             rw [e1] at he
             have hD1 : cP.D l := by
              rcases hD' with h | h
              ·exact h.2
              ·exact absurd hl h.1
             have hm1 : Mut cP l := by
              unfold Mut at hm' ⊢
              rwa [show (layC L0 cP (ctxShut c ls)).S l = cP.S l from lay_lo hl] at hm'
             have := hL.inv.rel.inj l q hD1 hD hm1 hm he
             subst this
             omega
            ·have e1 : (layC L0 cP (ctxShut c ls)).β l = (ctxShut c ls).β l := by simp [layC, hl]
             rw [e1] at he
             have hD1 : (ctxShut c ls).D l := by
              rcases hD' with h | h
              ·exact absurd h.1 hl
              ·exact h.2
             have hm1 : Mut (ctxShut c ls) l := by
              unfold Mut at hm' ⊢
              rwa [show (layC L0 cP (ctxShut c ls)).S l = (ctxShut c ls).S l from lay_hi hl] at hm'
             have h1 := hi1.rel.mutLt hD1 hm1
             have h2 := hq q hq1 hD hm
             omega
        ·cases htk
       ·cases htk
   ·cases h
  ·cases hsh : shut1 (om g) as caps with
   | some l =>
   rw [hsh] at h
   simp only [goW] at h
   split at h
   ·rename_i hb
    split at h
    ·rename_i r S1 hcallr
     split at h
     ·rename_i hcl
      simp only [Bool.and_eq_true] at hcl
      simp only [Option.some.injEq] at h
      subst h
      obtain ⟨hent, hcs⟩ := hcall _ _ _ _ _ _ hcallr
      refine ⟨hent, ?_⟩
      unfold shut1 at hsh
      cases hq : (om g).contains 2000 && closedL as with
      | false => rw [hq] at hsh; cases hsh
      | true =>
      rw [hq] at hsh
      simp only [Bool.and_eq_true] at hq
      have hsh : ptr1 caps = some l := hsh
      unfold ptr1 at hsh
      split at hsh
      ·rename_i l' off _ _ _
       obtain rfl : l' = l := by simpa using hsh
       have hcap : RepL (onlyC l' (ctxShut c ls)) [.ptr l' off] cvs := by
        cases hcg with
        | cons _ v _ vs hx hr =>
         cases hr
         cases hx with
         | ptr _ _ hbx =>
          refine .cons _ _ _ _ (.ptr _ _ ?_) .nil
          obtain ⟨h1, bt, cs, h2⟩ := hbx
          exact ⟨⟨h1, rfl⟩, bt, cs, by show only l' (ctxShut c ls).S l' = _; unfold only; rw [if_pos rfl]; exact h2⟩
       have := hcs (onlyC l' (ctxShut c ls)) (avs ++ cvs) rfl (only_inv hi1 hb) (hg.kept (ctxShut_kept c ls).sh)
        ((closedL_kept (c := ctxShut c ls) (c' := onlyC l' (ctxShut c ls)) (fun b hb => ⟨hb, rfl⟩) hq.2 hag).append hcap)
       refine Calls.mono this fun e w' he => ?_
       cases e with
       | panicked ch => exact he.elim
       | outgrown => exact he.elim
       | returned v =>
        obtain ⟨cP, rfl, hL⟩ := he
        obtain ⟨a1, a2, a3, a4, a5⟩ := one_sound hi1 hb hL hcl.1 hcl.2
        exact ⟨lay1C l' cP (ctxShut c ls), rfl, a2.rel, (ctxShut_kept c ls).trans a4, (ctxShut_fr hi.rel ls).trans a5, a1, a3, a2.lev, fun m hm => .inl hm, fun _ => a2.full⟩
      ·cases hsh
     ·cases h
    ·cases h
   ·cases h
   | none =>
   rw [hsh] at h
   simp only [goW] at h
   split at h
   ·rename_i r S1 hcallr
    cases htk : takeIn (L + 1) L d r S1 (trunc L S1) with
    | none => simp [htk] at h
    | some p =>
     obtain ⟨r', S2⟩ := p
     simp only [htk, Option.map_some, Option.some.injEq] at h
     subst h
     obtain ⟨hent, hcs⟩ := hcall _ _ _ _ _ _ hcallr
     refine ⟨hent, ?_⟩
     have := hcs (ctxShut c ls) (avs ++ cvs) rfl hi1 (hg.kept (ctxShut_kept c ls).sh) (hag.append hcg)
     refine Calls.mono this fun e w' he => ?_
     cases e with
     | panicked ch => exact he.elim
     | outgrown => exact he.elim
     | returned v =>
      obtain ⟨cP, rfl, hL⟩ := he
      have htk' : takeIn (L + 1) L d r cP.S (cut L cP).S = some (r', S2) := by
       show takeIn (L + 1) L d r cP.S (trunc L cP.S) = _
       rw [hL.S]; exact htk
      have hfr : Fr c cP := (ctxShut_fr hi.rel ls).trans hL.fr
      refine Exists.elim (takeIn_sound (a := c) htk' hL.rep (.inl fun b hb => hb) (fun k hok hf => pack_addOk hL.inv hok (.inr rfl) hf) (cut_fr hfr) (fun q hq hD hm => ?_)) fun c' hc' => ?_
      rotate_left
      ·obtain ⟨hw', hT⟩ := hc'
       refine ⟨c', hw', hT.inv.rel, ?_, hT.fr, hT.S, hT.rep, hT.inv.lev, fun l hl => ?_, fun _ => hT.inv.full⟩
       ·exact (ctxShut_kept c ls).trans ((cut_full hi1.lev hi1.full).trans ((cut_kept_cut (cut_kept_self L hL.kept)).trans hT.kept))
       ·rcases hT.new l hl with h | h
        ·rcases hL.new l h.1 with h' | h'
         ·exact .inl h'
         ·exact .inr (.inr h')
        ·exact .inr (.inl h)
      ·rcases hfr.own q hD hm with ⟨h1, _, _⟩ | h1
       ·have h2 := hi.lev q h1
        have h3 := locsOf_lev r (mem_dedup.1 hq)
        omega
       ·exact h1
   ·cases h
 ·cases h
theorem value_run {P : Program} {m : Sem Value} {w w' : World} {v : Value} (h : m.run P w = .ok v w') : (do pure (Next.value (← m)) : Sem Next).run P w = .ok (.value v) w' := by
 simp [Sem.run_bind, h, Result.andThen, Sem.run_pure]
theorem skip_run {P : Program} {m : Sem Unit} {w w' : World} (h : m.run P w = .ok () w') : (do m; pure Next.skip : Sem Next).run P w = .ok .skip w' := by
 simp [Sem.run_bind, h, Result.andThen, Sem.run_pure]
theorem builtin_run {P : Program} {a : Act} {o : Oper} {c : Call} {b : Builtin} (ho : o.op = .call c) (hb : c.callee = .builtin b) :
  ∃ k, ∀ w, (execOp a.eval o).run P w = (builtin b c.argTypes o.type k (c.args.map a.eval)).run P w := by
 simp only [execOp, ho, resolve, hb]
 exact ⟨_, fun w => by simp only [Sem.run_bind, Sem.run_pure, Result.andThen, invoke]; rfl⟩
theorem args_map {a : Act} {xs : Array Operand} : (xs.map a.eval) = (xs.toList.map a.eval).toArray := by
 apply Array.toList_inj.1; simp
theorem evalOp_calm {P : Program} {call : CallF} {om : FuncId → List Nat} {L n : Nat} {o : Oper} {c : Ctx} {s : Slots} {a : Act} (hR : Rel c) (hs : SR c n s a) {re : Res} (hc : calm o.op = true)
  (h : evalOp P call om L o s c.S = some re) : re.S = c.S ∧ ∃ v, Rep c re.t v ∧ ∀ w, (execOp a.eval o).run P w = .ok (.value v) w := by
 unfold evalOp at h
 split at h
 ·rename_i t hr
  obtain ⟨v, rfl, hv, hrun⟩ := ruleA_run hs hr
  cases h
  exact ⟨rfl, v, .sc v hv, hrun⟩
 ·split at h <;> rename_i hop <;> try (rw [hop] at hc; exact absurd (show false = true from hc) Bool.false_ne_true)
  ·rename_i x
   cases hx : ev s x with
   | none => simp [hx] at h
   | some t =>
    simp only [hx, Option.map_some, Option.some.injEq] at h
    subst h
    exact ⟨rfl, _, ev_rep hs hx, fun w => by simp [execOp, hop, Sem.run_pure]⟩
  ·rename_i x
   cases hx : ev s x with
   | none => simp [hx] at h
   | some t =>
    simp only [hx, Option.map_some, Option.some.injEq] at h
    subst h
    exact ⟨rfl, _, ev_rep hs hx, fun w => by simp [execOp, hop, Sem.run_pure]⟩
  ·rename_i q x y
   split at h
   ·rename_i b tx ty hq hx hy
    simp only [Option.some.injEq] at h
    subst h
    have e := (ev_rep hs hq).scv
    refine ⟨rfl, if b then a.eval x else a.eval y, ?_, fun w => ?_⟩
    ·cases b
     ·exact ev_rep hs hy
     ·exact ev_rep hs hx
    ·simp [execOp, hop, Sem.run_bind, e, asBool, Sem.run_pure, Result.andThen]
   ·cases h
  ·rename_i op t x y yt
   split at h
   ·rename_i ta tb ha hb
    cases hq : peqT P op t ta tb with
    | none => simp [hq] at h
    | some r =>
     simp only [hq, Option.map_some, Option.some.injEq] at h
     subst h
     exact ⟨rfl, _, .sc _ rfl, fun w => by simp only [execOp, hop]; exact value_run (peqT_run hq (ev_rep hs ha) (ev_rep hs hb) x y w)⟩
   ·cases h
  ·rename_i t ps
   cases hb : buildT P s t ps.toList with
   | none => simp [hb] at h
   | some r =>
    simp only [hb, Option.map_some, Option.some.injEq] at h
    subst h
    obtain ⟨v, hv, hr⟩ := buildT_sound hs hb
    exact ⟨rfl, v, hr, fun w => by simp only [execOp, hop]; exact value_run (hv w)⟩
  ·rename_i x
   split at h
   ·rename_i l off hx
    simp only [Option.some.injEq] at h
    subst h
    have hr := ev_rep hs hx
    refine ⟨rfl, _, hr, fun w => ?_⟩
    cases hv : a.eval x <;> rw [hv] at hr <;> cases hr
    simp [execOp, hop, hv, Sem.run_pure]
   ·cases h
  ·rename_i g fst caps
   split at h
   ·rename_i h0
    split at h
    ·rename_i hb
     cases hx : evL s caps.toList with
     | none => simp [hx] at h
     | some ts =>
      simp only [hx, Option.map_some, Option.some.injEq] at h
      subst h
      have hr := Rep.clo g ts _ (evL_rep hs hx) hb
      refine ⟨rfl, _, hr, fun w => ?_⟩
      have hf : fst = #[] := Array.eq_empty_of_size_eq_zero h0
      subst hf
      simp only [execOp, hop]
      exact value_run (by simp [Instr.makeFunc, Sem.run_pure, args_map])
    ·cases h
   ·split at h
    ·rename_i h1
     cases hx : evL s fst.toList with
     | none => simp [hx] at h
     | some ts =>
      simp only [hx, Option.map_some, Option.some.injEq] at h
      subst h
      have hr := Rep.mth g ts _ (evL_rep hs hx)
      refine ⟨rfl, _, hr, fun w => ?_⟩
      have hf : caps = #[] := Array.eq_empty_of_size_eq_zero h1
      subst hf
      simp only [execOp, hop]
      exact value_run (by simp [Instr.makeFunc, Sem.run_pure, args_map])
    ·cases h
  ·rename_i t x lo hi mx
   split at h
   ·rename_i y hx
    cases hsl : sliceT P s c.S t y lo hi mx with
    | none => simp [hsl] at h
    | some r =>
     simp only [hsl, Option.map_some, Option.some.injEq] at h
     subst h
     obtain ⟨v, hv, hr⟩ := sliceT_sound hs hsl (ev_rep hs hx)
     exact ⟨rfl, v, hr, fun w => by simp only [execOp, hop]; exact value_run (hv w)⟩
   ·cases h
  ·rename_i t x f
   split at h
   ·rename_i y hx
    cases hsl : fieldAddrT P t f y with
    | none => simp [hsl] at h
    | some r =>
     simp only [hsl, Option.map_some, Option.some.injEq] at h
     subst h
     obtain ⟨v, hv, hr⟩ := fieldAddrT_sound hsl (ev_rep hs hx)
     exact ⟨rfl, v, hr, fun w => by simp only [execOp, hop]; exact value_run (hv w)⟩
   ·cases h
  ·rename_i t x f
   split at h
   ·rename_i off n' ft cs hf hx
    split at h
    ·rename_i ag hag
     cases hrd : readAt ag n' cs off with
     | none => simp [hrd] at h
     | some r =>
      simp only [hrd, Option.map_some, Option.some.injEq] at h
      subst h
      obtain ⟨v, hv, hr⟩ := fieldT_field hf (ev_rep hs hx) hag hrd
      exact ⟨rfl, v, hr, fun w => by simp only [execOp, hop]; exact value_run (hv w)⟩
    ·cases h
   ·cases h
  ·rename_i t x i
   split at h
   ·rename_i len e cs kk m hu hx hj
    split at h
    ·rename_i sz ag hsz hag
     cases hio : idxOk m len with
     | false => rw [hio] at h; cases h
     | true =>
      rw [hio] at h
      simp only [cond_true] at h
      cases hrd : readAt ag sz cs (m.toNat * sz) with
      | none => simp [hrd] at h
      | some r =>
       simp only [hrd, Option.map_some, Option.some.injEq] at h
       subst h
       obtain ⟨v, hv, hr⟩ := indexT_agg hu hsz hag hio (ev_rep hs hx) (ev_rep hs hj) hrd
       exact ⟨rfl, v, hr, fun w => by simp only [execOp, hop]; exact value_run (hv w)⟩
    ·cases h
   ·cases h
  ·rename_i t x i
   split at h
   ·rename_i y j hx hj
    cases hsl : indexAddrT P c.S t y j with
    | none => simp [hsl] at h
    | some r =>
     simp only [hsl, Option.map_some, Option.some.injEq] at h
     subst h
     obtain ⟨v, hv, hr⟩ := indexAddrT_sound hR hsl (ev_rep hs hx) (ev_rep hs hj)
     exact ⟨rfl, v, hr, fun w => by simp only [execOp, hop]; exact value_run (hv w)⟩
   ·cases h
  ·rename_i x j
   split at h
   ·rename_i ts hx
    cases hj : ts[j]? with
    | none => simp [hj] at h
    | some r =>
     simp only [hj, Option.map_some, Option.some.injEq] at h
     subst h
     have hr := ev_rep hs hx
     generalize hxv : a.eval x = xv at hr
     cases hr with
     | tup _ vs hl =>
      obtain ⟨v, hv, hrv⟩ := hl.get hj
      refine ⟨rfl, v, hrv, fun w => ?_⟩
      simp only [execOp, hop]
      refine value_run ?_
      simp [Instr.extract, hxv, hv, Sem.run_pure]
   ·cases h
  ·rename_i cl
   split at h
   ·rename_i sz xs hb hx
    split at h
    ·rename_i t ht
     cases he : elemT P t with
     | none => simp [he] at h
     | some e =>
      simp only [he, Option.map_some, Option.some.injEq] at h
      subst h
      obtain ⟨k, hk⟩ := builtin_run (P := P) (a := a) hop hb
      have hr := evL_rep hs hx
      refine ⟨rfl, _, .sc _ rfl, fun w => ?_⟩
      rw [hk w, args_map]
      generalize cl.args.toList.map a.eval = vs at hr
      cases hr with
      | cons _ v _ vs hr hn =>
       cases hn
       have ht' : cl.argTypes = #[t] := Array.toList_inj.1 ht
       rw [ht']
       refine value_run ?_
       cases hr with
       | lst0 _ A cap => exact len_run he w
       | lst _ _ b o cap vs hsb hE hc hcap => exact len_run he w
    ·cases h
   ·rename_i l g off len hb hx
    split at h
    ·rename_i t ht
     cases he : elemT P t with
     | none => simp [he] at h
     | some e =>
      simp only [he, Option.map_some, Option.some.injEq] at h
      subst h
      obtain ⟨k, hk⟩ := builtin_run (P := P) (a := a) hop hb
      have hr := evL_rep hs hx
      refine ⟨rfl, _, .sc _ rfl, fun w => ?_⟩
      rw [hk w, args_map]
      generalize cl.args.toList.map a.eval = vs at hr
      cases hr with
      | cons _ v _ vs hr hn =>
       cases hn
       have ht' : cl.argTypes = #[t] := Array.toList_inj.1 ht
       rw [ht']
       refine value_run ?_
       cases hr with
       | own _ _ _ _ A cap ho => exact len_run he w
    ·cases h
   ·rename_i hb hx; rw [hop] at hc; obtain ⟨ce, ar, at_⟩ := cl; simp only at hb; subst hb; simp [calm] at hc
   ·rename_i hb hx; rw [hop] at hc; obtain ⟨ce, ar, at_⟩ := cl; simp only at hb; subst hb; simp [calm] at hc
   ·rename_i hb hx; rw [hop] at hc; obtain ⟨ce, ar, at_⟩ := cl; simp only at hb; subst hb; simp [calm] at hc
   ·rename_i hb hx; rw [hop] at hc; obtain ⟨ce, ar, at_⟩ := cl; simp only at hb; subst hb; simp [calm] at hc
   ·rename_i hb hx; rw [hop] at hc; obtain ⟨ce, ar, at_⟩ := cl; simp only at hb; subst hb; simp [calm] at hc
   ·rename_i hb hx; rw [hop] at hc; obtain ⟨ce, ar, at_⟩ := cl; simp only at hb; subst hb; simp [calm] at hc
   ·rename_i hb hx; rw [hop] at hc; obtain ⟨ce, ar, at_⟩ := cl; simp only at hb; subst hb; simp [calm] at hc
   ·cases h
  ·cases h
theorem wp_value {P : Program} {o : Oper} {a : Act} {w w' : World} {v : Value} {K : Act → World → Prop} {Q : Exit → Act → World → Prop} (h : (execOp a.eval o).run P w = .ok (.value v) w') (hk : K (a.put o.dst v) w') : o.wp P a w K Q := by
 simp only [Oper.wp, h, Oper.upon]; exact hk
theorem wp_skip' {P : Program} {o : Oper} {a : Act} {w w' : World} {K : Act → World → Prop} {Q : Exit → Act → World → Prop} (h : (execOp a.eval o).run P w = .ok .skip w') (hk : K (a.put o.dst undef) w') : o.wp P a w K Q := by
 simp only [Oper.wp, h, Oper.upon]; exact hk
theorem callFunc_run {P : Program} {f : FuncId} (h : Entered P f) (args : Array Value) (w : World) : (callFunc f args).run P w = .ok (.enter f args) w := by
 obtain ⟨fn, h1, h2, h3⟩ := h
 have h2' : fn.name ≠ "runtime.NumGoroutine" := by simpa using h2
 have h3' : fn.body ≠ none := by intro e; rw [e] at h3; cases h3
 simp only [callFunc]
 simp [h1, h2', h3']
theorem call_run {P : Program} {a : Act} {o : Oper} {c : Call} {x : Operand} {f : FuncId} {fst caps : Array Value} (ho : o.op = .call c) (hc : c.callee = .value x) (hx : a.eval x = .func (.func f) fst caps) (hf : Entered P f) (w : World) :
  (execOp a.eval o).run P w = .ok (.enter f (fst ++ c.args.map a.eval ++ caps)) w := by
 simp only [execOp, ho, resolve, hc, hx, Deferred.ofValue]
 simp only [Sem.run_bind, Sem.run_pure, Result.andThen, invoke]
 exact callFunc_run hf _ w
theorem evalOp_sound {P : Program} {γ : Glob} {call : CallF} (hcall : CallOk P γ call) {om : FuncId → List Nat} {L n : Nat} {o : Oper} {c : Ctx} {s : Slots} {a : Act} (hi : Inv L c) (hg : Good γ c) (hs : SR c n s a) {re : Res}
  (h : evalOp P call om L o s c.S = some re) {K : Act → World → Prop} {Q : Exit → Act → World → Prop} (hK : ∀ v c', Stp L c re.S re.t v c' → K (a.put o.dst v) c'.w) : o.wp P a c.w K Q := by
 have hR := hi.rel
 have hL := hi.lev
 by_cases hc : calm o.op = true
 ·obtain ⟨h1, v, h2, h3⟩ := evalOp_calm hR hs hc h
  exact wp_value (h3 c.w) (hK v c (by rw [h1]; exact .same hR hL h2))
 ·unfold evalOp at h
  split at h
  ·rename_i t hr
   obtain ⟨v, rfl, hv, hrun⟩ := ruleA_run hs hr
   cases h
   exact wp_value (hrun c.w) (hK v c (.same hR hL (.sc v hv)))
  ·split at h <;> rename_i hop <;> try (rw [hop] at hc; exact absurd rfl hc)
   ·rename_i e
    split at h
    ·rename_i z hz
     obtain ⟨v, c', hrun, hst⟩ := alloc_sound (P := P) hR hL hz h
     exact wp_value (by simp only [execOp, hop]; exact value_run hrun) (hK v c' hst)
    ·cases h
   ·rename_i e x
    split at h
    ·rename_i t hx
     obtain ⟨v, c', hrun, hst⟩ := box_sound (P := P) (e := e) hR hL (ev_rep hs hx) h
     exact wp_value (by simp only [execOp, hop]; exact value_run hrun) (hK v c' hst)
    ·cases h
   ·rename_i t len ps
    obtain ⟨v, c', hrun, hst⟩ := buildSliceT_sound hR hL hs h
    exact wp_value (by simp only [execOp, hop]; exact value_run hrun) (hK v c' hst)
   ·rename_i t x
    split at h
    ·rename_i y hx
     obtain ⟨v, hrun, hst⟩ := loadT_sound hR hL h (ev_rep hs hx)
     exact wp_value (by simp only [execOp, hop]; exact value_run hrun) (hK v c hst)
    ·cases h
   ·rename_i t x y
    split at h
    ·rename_i tx ty hx hy
     obtain ⟨c', hrun, hst⟩ := storeT_sound hR hL h (ev_rep hs hx) (ev_rep hs hy)
     exact wp_skip' (by simp only [execOp, hop]; exact skip_run hrun) (hK undef c' hst)
    ·cases h
   ·rename_i src dst x
    split at h
    ·rename_i t hx
     obtain ⟨v, c', hrun, hst⟩ := convT_sound (P := P) hR hL h (ev_rep hs hx)
     exact wp_value (by simp only [execOp, hop]; exact value_run hrun) (hK v c' hst)
    ·cases h
   ·rename_i t l cp
    split at h
    ·rename_i x y hx hy
     obtain ⟨v, c', hrun, hst⟩ := makeT_sound (P := P) hR hL h (ev_rep hs hx) (ev_rep hs hy)
     exact wp_value (by simp only [execOp, hop]; exact value_run hrun) (hK v c' hst)
    ·cases h
   ·rename_i cl
    split at h
    ·rename_i hb hx; exfalso; rw [hop] at hc; obtain ⟨ce, ar, at_⟩ := cl; simp only at hb; subst hb; exact hc rfl
    ·rename_i hb hx; exfalso; rw [hop] at hc; obtain ⟨ce, ar, at_⟩ := cl; simp only at hb; subst hb; exact hc rfl
    ·rename_i x y hb hx
     split at h
     ·rename_i t u ht
      obtain ⟨k, hk⟩ := builtin_run (P := P) (a := a) hop hb
      have hr := evL_rep hs hx
      have hargs := args_map (a := a) (xs := cl.args)
      generalize cl.args.toList.map a.eval = vs at hr hargs
      cases hr with
      | cons _ v1 _ vs h1 hr =>
       cases hr with
       | cons _ v2 _ vs h2 hr =>
        cases hr
        obtain rfl := h2.scv
        obtain ⟨v, c', hrun, hst⟩ := appendS_sound (P := P) (ty := o.type) hR hL h h1
        have ht' : cl.argTypes = #[t, u] := Array.toList_inj.1 ht
        exact wp_value (by rw [hk, hargs, ht']; exact value_run hrun) (hK v c' hst)
     ·cases h
    ·rename_i x ki n hb hx
     split at h
     ·rename_i t u ht
      obtain ⟨k, hk⟩ := builtin_run (P := P) (a := a) hop hb
      have hr := evL_rep hs hx
      have hargs := args_map (a := a) (xs := cl.args)
      generalize cl.args.toList.map a.eval = vs at hr hargs
      cases hr with
      | cons _ v1 _ vs h1 hr =>
       cases hr with
       | cons _ v2 _ vs h2 hr =>
        cases hr
        obtain rfl := h2.scv
        obtain ⟨v, c', hrun, hst⟩ := appendZ_sound (P := P) (ty := o.type) (k := ki) hR hL h h1
        have ht' : cl.argTypes = #[t, u] := Array.toList_inj.1 ht
        exact wp_value (by rw [hk, hargs, ht']; exact value_run hrun) (hK v c' hst)
     ·cases h
    ·rename_i x hb hx
     obtain ⟨k, hk⟩ := builtin_run (P := P) (a := a) hop hb
     have hr := evL_rep hs hx
     have hargs := args_map (a := a) (xs := cl.args)
     generalize cl.args.toList.map a.eval = vs at hr hargs
     cases hr with
     | cons _ v1 _ vs h1 hr =>
      cases hr
      cases hq : usdT c.S x with
      | none => simp [hq] at h
      | some t =>
       simp only [hq, Option.map_some, Option.some.injEq] at h
       subst h
       obtain ⟨v, hrun, hst⟩ := usdT_sound (P := P) (L := L) (ts := cl.argTypes) (ty := o.type) hR hL hq h1
       exact wp_value (by rw [hk, hargs]; exact value_run hrun) (hK v c hst)
    ·rename_i x y hb hx
     split at h
     ·rename_i t u ht
      obtain ⟨k, hk⟩ := builtin_run (P := P) (a := a) hop hb
      have hr := evL_rep hs hx
      have hargs := args_map (a := a) (xs := cl.args)
      generalize cl.args.toList.map a.eval = vs at hr hargs
      cases hr with
      | cons _ v1 _ vs h1 hr =>
       cases hr with
       | cons _ v2 _ vs h2 hr =>
        cases hr
        cases hq : ustrT P c.S t x y with
        | none => simp [hq] at h
        | some p =>
         obtain ⟨r, S1⟩ := p
         simp only [hq, Option.map_some, Option.some.injEq] at h
         subst h
         obtain ⟨v, c', hrun, hst⟩ := ustrT_sound (P := P) (L := L) (it := u) (ty := o.type) hR hL hq h1 h2
         have ht' : cl.argTypes = #[t, u] := Array.toList_inj.1 ht
         exact wp_value (by rw [hk, hargs, ht']; exact value_run hrun) (hK v c' hst)
     ·cases h
    ·rename_i x y hb hx
     split at h
     ·rename_i t u ht
      obtain ⟨k, hk⟩ := builtin_run (P := P) (a := a) hop hb
      have hr := evL_rep hs hx
      have hargs := args_map (a := a) (xs := cl.args)
      generalize cl.args.toList.map a.eval = vs at hr hargs
      cases hr with
      | cons _ v1 _ vs h1 hr =>
       cases hr with
       | cons _ v2 _ vs h2 hr =>
        cases hr
        obtain ⟨v, c', hrun, hst⟩ := appendT_sound (P := P) (ty := o.type) hR hL h h1 h2
        have ht' : cl.argTypes = #[t, u] := Array.toList_inj.1 ht
        exact wp_value (by rw [hk, hargs, ht']; exact value_run hrun) (hK v c' hst)
     ·cases h
    ·rename_i x y hb hx
     split at h
     ·rename_i t u ht
      obtain ⟨k, hk⟩ := builtin_run (P := P) (a := a) hop hb
      have hr := evL_rep hs hx
      have hargs := args_map (a := a) (xs := cl.args)
      generalize cl.args.toList.map a.eval = vs at hr hargs
      cases hr with
      | cons _ v1 _ vs h1 hr =>
       cases hr with
       | cons _ v2 _ vs h2 hr =>
        cases hr
        obtain ⟨v, c', hrun, hst⟩ := copyT_sound (P := P) (u := u) (ty := o.type) hR hL h h1 h2
        have ht' : cl.argTypes = #[t, u] := Array.toList_inj.1 ht
        exact wp_value (by rw [hk, hargs, ht']; exact value_run hrun) (hK v c' hst)
     ·cases h
    ·rename_i x args hb hx
     split at h
     ·rename_i t ht
      have hr := ev_rep hs ht
      have ha := evL_rep hs hx
      have hargs := args_map (a := a) (xs := cl.args)
      generalize cl.args.toList.map a.eval = avs at ha hargs
      have fin : ∀ (g : FuncId) (fst : Array Value) (caps : List T) (cvs : List Value), fst = #[] → a.eval x = .func (.func g) fst cvs.toArray → RepL c caps cvs →
        goT call om L o.dst c.S g args caps = some re → o.wp P a c.w K Q := by
       intro g fst caps cvs hf0 hev hcv hgo
       subst hf0
       obtain ⟨hent, hcl⟩ := goT_sound hcall hi hg hgo ha hcv
       have hrun := call_run (P := P) (a := a) hop hb hev hent c.w
       simp only [Oper.wp, hrun, Oper.upon]
       rw [hargs]
       have e : (#[] : Array Value) ++ avs.toArray ++ cvs.toArray = (avs ++ cvs).toArray := by simp
       rw [e]
       refine Calls.mono hcl fun en w' he => ?_
       cases en with
       | panicked ch => exact he.elim
       | outgrown => exact he.elim
       | returned v =>
        obtain ⟨c', rfl, hst⟩ := he
        exact hK v c' hst
      have fin2 : ∀ (g : FuncId) (caps : List T) (cvs : List Value), a.eval x = .func (.func g) cvs.toArray #[] → RepL c caps cvs →
        goT call om L o.dst c.S g (caps ++ args) [] = some re → o.wp P a c.w K Q := by
       intro g caps cvs hev hcv hgo
       obtain ⟨hent, hcl⟩ := goT_sound hcall hi hg hgo (hcv.append ha) .nil
       have hrun := call_run (P := P) (a := a) hop hb hev hent c.w
       simp only [Oper.wp, hrun, Oper.upon]
       rw [hargs]
       have e : cvs.toArray ++ avs.toArray ++ #[] = (cvs ++ avs ++ []).toArray := by simp
       rw [e]
       refine Calls.mono hcl fun en w' he => ?_
       cases en with
       | panicked ch => exact he.elim
       | outgrown => exact he.elim
       | returned v =>
        obtain ⟨c', rfl, hst⟩ := he
        exact hK v c' hst
      cases hne : isNoEscO P x with
      | true =>
       simp only [hne, cond_true] at h
       split at h
       ·rename_i l off
        simp only [Option.some.injEq] at h
        subst h
        cases ha with
        | cons _ v1 _ vs h1 hr1 =>
         cases hr1
         obtain ⟨g, rfl⟩ : ∃ g, x = .func g := by
          unfold isNoEscO at hne
          split at hne
          ·exact ⟨_, rfl⟩
          ·cases hne
         simp only [ev, Option.some.injEq] at ht
         subst ht
         have hr' : a.eval (.func g) = .func (.func g) #[] #[] := hr.scv
         refine wp_value (w' := c.w) ?_ (hK v1 c (.same hR hL h1))
         simp only [execOp, hop, resolve, hb, hr', Deferred.ofValue]
         simp only [Sem.run_bind, Sem.run_pure, Result.andThen, invoke]
         rw [hargs]
         exact noEsc_run (f0 := #[]) (c0 := #[]) hne v1 c.w
       ·cases h
      | false =>
      simp only [hne, cond_false] at h
      unfold callT at h
      split at h
      ·rename_i g f0 c0
       cases hr' : a.eval x <;> rw [hr'] at hr <;> cases hr
       rename_i hsc
       simp only [isSc, Bool.and_eq_true, beq_iff_eq] at hsc
       have h1 := Array.eq_empty_of_size_eq_zero hsc.1
       have h2 := Array.eq_empty_of_size_eq_zero hsc.2
       refine fin g f0 [] [] h1 ?_ .nil h
       rw [hr', h2]
      ·rename_i g caps
       cases hr' : a.eval x <;> rw [hr'] at hr <;> cases hr
       ·rename_i cvs hf hl
        rw [hf] at h
        exact fin g _ caps cvs rfl hr' hl h
       ·rename_i f cvs hl
        have e1 : Nat.blt (Nat.add f 1000000000) 1000000000 = false := by
         cases hb1 : Nat.blt (Nat.add f 1000000000) 1000000000 with
         | false => rfl
         | true =>
          rw [Nat.blt_eq] at hb1
          have hb1 : f + 1000000000 < 1000000000 := hb1
          exact absurd hb1 (Nat.not_lt.2 (Nat.le_add_left _ _))
        have e2 : Nat.sub (Nat.add f 1000000000) 1000000000 = f := Nat.add_sub_cancel f 1000000000
        rw [e1, e2] at h
        exact fin2 f caps cvs hr' hl h
      ·cases h
     ·cases h
    ·cases h
   ·cases h
end Go.TM
