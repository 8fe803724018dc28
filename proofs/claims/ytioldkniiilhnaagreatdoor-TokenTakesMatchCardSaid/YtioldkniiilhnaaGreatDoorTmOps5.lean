/- Rows of given elements; append, copy, conversions. -/
import Derived.Test.YtioldkniiilhnaaGreatDoorTmOps4
import Derived.Deep.Upon
import Derived.Lib.ConvBytes
import Derived.Laws.BytesString
set_option linter.all false
namespace Go.TM
open Go
set_option linter.unusedVariables false
set_option linter.unusedSimpArgs false

theorem closedL_iff {ts : List T} : closedL ts = true ↔ ∀ t ∈ ts, closed t = true := by
 induction ts with
 | nil => simp [closedL]
 | cons x xs ih => simp [closedL, ih]

/-- Elements of one size, their values' cells in a row. -/
theorem repE_of {c : Ctx} {sz : Nat} : ∀ {us : List T} {vs : List Value}, RepL c us vs → closedL us = true → (us.all fun u => decide (u.cells.length = sz)) = true →
  RepE c sz us (vs.flatMap fun v => v.cells.toList)
 | _, _, .nil, _, _ => .nil sz
 | _, _, .cons x v xs vs hx hr, hc, hs => by
  simp only [closedL, Bool.and_eq_true] at hc
  simp only [List.all_cons, Bool.and_eq_true, decide_eq_true_eq] at hs
  rw [List.flatMap_cons]
  exact .cons sz x v _ _ hx hs.1 hc.1 (repE_of hr hc.2 hs.2)

theorem fill_row {sz : Nat} : ∀ (vs : List Value) (k : Nat) (cur : Array Value), (∀ v ∈ vs, v.cells.size = sz) → cur.size = (k + vs.length) * sz →
  ∃ out, Instr.fill (fun i => some (i * sz, sz)) cur (vs.zipIdx k |>.map fun p => (p.2, p.1)) = some out ∧ out.toList = cur.toList.take (k * sz) ++ vs.flatMap fun v => v.cells.toList
 | [], k, cur, _, hsz => ⟨cur, rfl, by simp [List.take_of_length_le, hsz]⟩
 | v :: vs, k, cur, hv, hsz => by
  have hv0 : v.cells.size = sz := hv v (by simp)
  simp only [List.length_cons] at hsz
  have hfit : k * sz + v.cells.size ≤ cur.size := by
   rw [hsz, hv0, ← Nat.succ_mul]
   exact Nat.mul_le_mul_right _ (by omega)
  have hf := fill_cells (k * sz) v cur hfit
  obtain ⟨out, ho, hl⟩ := fill_row vs (k + 1) (v.cells.zipIdx.foldl (fun cs (x : Value × Nat) => cs.setIfInBounds (k * sz + x.2) x.1) cur) (fun u hu => hv u (by simp [hu])) (by
   have := congrArg List.length hf
   simp only [List.length_append, List.length_take, List.length_drop, Array.length_toList] at this
   have h2 : (v.cells.zipIdx.foldl (fun cs (x : Value × Nat) => cs.setIfInBounds (k * sz + x.2) x.1) cur).size = cur.size := by rw [this]; omega
   rw [h2, hsz]
   congr 1
   omega)
  refine ⟨out, ?_, ?_⟩
  ·rw [List.zipIdx_cons, List.map_cons]
   simp only [Instr.fill]
   rw [if_neg (by simp [hv0]; omega)]
   exact ho
  ·rw [hl, hf, List.flatMap_cons, ← List.append_assoc]
   congr 1
   rw [List.take_append, List.take_of_length_le (by simp [hv0, Nat.add_mul]; omega)]
   rw [show (k + 1) * sz - (cur.toList.take (k * sz) ++ v.cells.toList).length = 0 from by simp [hv0, Nat.add_mul]; omega]
   simp

theorem range_zip {α : Type} : ∀ (ps : List (Nat × α)) (k : Nat), ps.map (·.1) = List.range' k ps.length → ps = ((ps.map (·.2)).zipIdx k).map fun p => (p.2, p.1)
 | [], _, _ => rfl
 | (i, x) :: ps, k, h => by
  simp only [List.map_cons, List.length_cons, List.range'_succ, List.cons.injEq] at h
  obtain ⟨rfl, h⟩ := h
  simp only [List.map_cons, List.zipIdx_cons]
  congr 1
  exact range_zip ps (i + 1) h

theorem buildSliceT_sound {P : Program} {L : Nat} {c : Ctx} (hR : Rel c) (hL : ∀ l, c.D l → l.1 ≤ L) {nn : Nat} {s : Slots} {a : Act} (hs : SR c nn s a) {d : Option Tmp} {t : TypeId} {len : Nat}
  {parts : Array (Nat × Operand)} {re : Res} (h : buildSliceT P L d s c.S t len parts.toList = some re) :
  ∃ v c', (Instr.buildSlice t len (parts.map fun (p : Nat × Operand) => (p.1, a.eval p.2))).run P c.w = .ok v c'.w ∧ Stp L c re.S re.t v c' := by
 unfold buildSliceT at h
 split at h
 ·rename_i hr
  obtain ⟨hrange, hlen⟩ := hr
  split at h
  ·rename_i e sz ts he hts
   obtain ⟨hu, hsz⟩ := elemT_slice he
   split at h
   ·rename_i us S1 hf
    split at h
    ·rename_i hc
     simp only [Bool.and_eq_true, decide_eq_true_eq] at hc
     obtain ⟨⟨hall, hzs⟩, hsz1000⟩ := hc
     obtain ⟨z, hz⟩ := Option.isSome_iff_exists.1 hzs
     have hvs := evL_rep hs hts
     obtain ⟨hcl, ls, rfl, hus⟩ := freezeL_rep hR ts hf hvs
     obtain ⟨i, zv, v0, hi, hzv, hzsz, his, hpos, _⟩ := zeroT_info hz hsz c
     have hE := repE_of hus hcl hall
     have hpl : parts.toList.length = len := by
      have := congrArg List.length hrange
      simpa using this
     have hEl := hE.length
     have hul : us.length = len := by have := hus.length; simp only [List.length_map] at this; omega
     have hvsz : ∀ v ∈ (parts.toList.map (·.2)).map a.eval, v.cells.size = sz := by
      intro v hv
      obtain ⟨j, hj⟩ := List.mem_iff_getElem?.1 hv
      have hjl : j < us.length := by
       have h1 := hus.length
       have h2 := (List.getElem?_eq_some_iff.1 hj).1
       omega
      obtain ⟨v', hv', hr'⟩ := hus.get (List.getElem?_eq_getElem hjl)
      rw [hj] at hv'
      simp only [Option.some.injEq] at hv'
      subst hv'
      have hcu := closedL_iff.1 hcl us[j] (List.getElem_mem hjl)
      have h3 := (hr'.cells (closed_ones hcu)).length
      have h4 := of_decide_eq_true (List.all_eq_true.1 hall us[j] (List.getElem_mem hjl))
      simpa [h4] using h3
     have hcur : ((Array.range (len * sz)).map (zv.cells[· % zv.cells.size]!)).size = len * sz := by simp
     obtain ⟨out, ho, hol⟩ := fill_row (sz := sz) ((parts.toList.map (·.2)).map a.eval) 0 ((Array.range (len * sz)).map (zv.cells[· % zv.cells.size]!)) hvsz (by simp [hpl])
     simp only [Nat.zero_mul, List.take_zero, List.nil_append] at hol
     have hparts : parts.toList.map (fun p => (p.1, a.eval p.2)) = (((parts.toList.map (·.2)).map a.eval).zipIdx 0).map fun p => (p.2, p.1) := by
      have h1 := range_zip (parts.toList.map fun p => (p.1, a.eval p.2)) 0 (by simpa [List.range_eq_range', Function.comp_def, hpl] using hrange)
      simpa [Function.comp_def] using h1
     have hsize : out.size = len * sz := by
      have h1 : out.toList.length = us.length * sz := by rw [hol]; exact hEl
      simpa [hul] using h1
     have hres : ¬ (16777216 < len * sz) := by
      have : len * sz ≤ 4096 * 1000 := Nat.mul_le_mul hlen hsz1000
      omega
     have hrun : (Instr.buildSlice t len (parts.map fun (p : Nat × Operand) => (p.1, a.eval p.2))).run P c.w = .ok (.slice (some ⟨c.w.heap.size, 0, none⟩) len len) (c.w.alloc (.cells out e)) := by
      by_cases h0 : len * sz = 0
      ·have hh : len = 0 := by
        rcases Nat.mul_eq_zero.1 h0 with h | h
        ·exact h
        ·omega
       have hp0 : parts = #[] := by
        apply Array.toList_inj.1
        exact List.eq_nil_of_length_eq_zero (by omega)
       have ho0 : out = #[] := Array.eq_empty_of_size_eq_zero (by omega)
       subst hh hp0 ho0
       simp [Instr.buildSlice, Sem.run_bind, run_underlying hu, sizeOf_run hsz, Instr.fill, newRow, Array.range_zero']
      ·simp [Instr.buildSlice, Sem.run_bind, run_underlying hu, sizeOf_run hsz, h0, hres, zeroValue, typeInfo, hi, hzv]
       rw [hparts, ho]
       simp [newRow]
     obtain ⟨c', hw, hst⟩ := newArr_sound (cur := out) (cap := len) (ctxShut_rel hR ls) (fun l h => hL l h) h hE (w' := c.w.alloc (.cells out e)) ⟨rfl, rfl, rfl⟩
      (fun b hb => World.alloc_old hb) (by show _ ≤ (c.w.heap.push _).size; simp [ctxShut]) (World.alloc_new _ _) (by rw [hol]; exact List.take_length) (by omega) (by omega)
     rw [hul] at hst
     exact ⟨_, c', by rw [hw]; exact hrun, hst.after_shut hR⟩
    ·cases h
   ·cases h
  ·cases h
 ·cases h

/-! ### append -/
/-- A slice's elements, and where they lie. -/
theorem elemsOf_rep {c : Ctx} (hR : Rel c) {y : T} {yv : Value} {sy : Option Nat} {ys : List T} {f : Nat} (h : elemsOf c.S y = some (sy, ys, f)) (hy : Rep c y yv) :
  ∃ A n cap, yv = .slice A n cap ∧ n = ys.length ∧ (sy = none → ys = []) ∧ (ys ≠ [] → ∃ sz us b o, sy = some sz ∧ RepE c sz ys us ∧ A = some ⟨b, o, none⟩ ∧ ∀ i v, us[i]? = some v → c.w.cell? ⟨b, o + i, none⟩ = some v) ∧
   (∀ sz, sy = some sz → ∃ us, RepE c sz ys us) := by
 cases y with
 | lst sz xs =>
  simp only [elemsOf, Option.some.injEq, Prod.mk.injEq] at h
  obtain ⟨rfl, rfl, rfl⟩ := h
  cases hy with
  | lst0 _ A cap => exact ⟨A, 0, cap, rfl, rfl, by simp, by simp, fun sz' h => ⟨[], by cases h; exact .nil _⟩⟩
  | lst _ _ b o cap vs hs hE hc hcap => exact ⟨_, _, cap, rfl, rfl, by simp, fun _ => ⟨sz, vs, b, o, rfl, hE, rfl, hc⟩, fun sz' h => ⟨vs, by cases h; exact hE⟩⟩
 | own l g off len =>
  simp only [elemsOf] at h
  split at h
  ·rename_i ro g' sz e xs hS
   split at h
   ·rename_i hg
    obtain ⟨rfl, hlen⟩ := hg
    simp only [Option.some.injEq, Prod.mk.injEq] at h
    obtain ⟨rfl, rfl, rfl⟩ := h
    cases hy with
    | own _ _ _ _ A cap ho =>
     simp only [OwnOk, hS] at ho
     obtain ⟨hD, h1, h2, h3⟩ := ho.2 trivial
     obtain ⟨cur, fz, vs, hw, _, _, hE, htk⟩ := hR.arr l _ _ _ _ _ hD hS
     have hE2 := (hE.drop off).take len
     have hl : ((xs.drop off).take len).length = len := by simp; omega
     refine ⟨A, len, cap, rfl, hl.symm, by simp, fun hne => ?_, fun sz' h => ⟨_, by cases h; exact hE2⟩⟩
     have hlen0 : len ≠ 0 := fun h0 => hne (List.eq_nil_of_length_eq_zero (by omega))
     obtain ⟨cur', fz', rfl, hw', hsz⟩ := h3.resolve_left (by omega)
     refine ⟨sz, _, c.β l, off * sz, rfl, hE2, rfl, fun i v hi => ?_⟩
     rw [cell_at hw]
     rw [List.getElem?_take] at hi
     split at hi
     ·rw [List.getElem?_drop] at hi
      rw [← Array.getElem?_toList]
      exact take_get htk hi
     ·cases hi
   ·cases h
  ·cases h
 | sc v =>
  obtain rfl := hy.scv
  cases yv with
  | slice A n cp =>
   cases A with
   | some ad => simp [elemsOf] at h
   | none =>
    simp only [elemsOf, Option.some.injEq, Prod.mk.injEq] at h
    obtain ⟨rfl, rfl, rfl⟩ := h
    cases hy with
    | sc _ hsc =>
     simp only [isSc, Bool.and_eq_true, beq_iff_eq] at hsc
     obtain ⟨rfl, rfl⟩ := hsc
     exact ⟨none, 0, 0, rfl, rfl, fun _ => rfl, by simp, by simp⟩
  | _ => simp [elemsOf] at h
 | undef => simp [elemsOf] at h
 | ptr l off => simp [elemsOf] at h
 | lptr sz xs i off => simp [elemsOf] at h
 | aptr l g i off => simp [elemsOf] at h
 | clo f cs => simp [elemsOf] at h
 | agg cs => simp [elemsOf] at h
 | tup cs => simp [elemsOf] at h

theorem append_zero {P : Program} {w : World} {t ty e : TypeId} {sz : Nat} (hu : P.underlying t = some (.slice e)) (hsz : szOf P e = some sz) (A B : Option Addr) (n cap cap2 : Nat) (hcap : n ≤ cap) :
  (Builtin.append_ #[t, t] ty #[.slice A n cap, .slice B 0 cap2]).run P w = .ok (.slice A n cap) w := by
 have h0 : (loadCells (B.getD default) 0).run P w = .ok #[] w := by simp [loadCells, loadCellsFrom]
 cases A <;> cases B <;> simp [Builtin.append_, Sem.run_bind, run_underlying hu, sizeOf_run hsz, Builtin.lenOf, hcap, Builtin.firstCells, loadCells, loadCellsFrom, storeCells]

theorem drew_heap (w : World) : w.drew.heap = w.heap := rfl

theorem calm_drew_alloc (w : World) (o : Go.Obj) : Calm w (w.drew.alloc o) := ⟨rfl, rfl, rfl⟩

theorem appendC_sound {P : Program} {om : FuncId → List Nat} {L : Nat} {c : Ctx} (hR : Rel c) (hL : ∀ l, c.D l → l.1 ≤ L) {d : Option Tmp} {t u ty : TypeId} {x y : T} {xv yv : Value} {re : Res}
  (h : appendT P om L d c.S t t x y = some re) (hx : Rep c x xv)
  (hsrc : ∀ e sz sy ys fy, elemT P t = some (e, sz) → elemsOf c.S y = some (sy, ys, fy) → (sy = none ∨ sy = some sz) → ∃ us, Src P sz u yv ys.length us c.w ∧ RepE c sz ys us) :
  ∃ v c', (Builtin.append_ #[t, u] ty #[xv, yv]).run P c.w = .ok v c'.w ∧ Stp L c re.S re.t v c' := by
 unfold appendT at h
 split at h
 ·cases h
 ·split at h
  ·rename_i e sz sy ys fy he hel
   obtain ⟨hu, hsz⟩ := elemT_slice he
   split at h
   ·rename_i hc
    obtain ⟨hsy, hz⟩ := hc
    obtain ⟨z, hz⟩ := Option.isSome_iff_exists.1 hz
    obtain ⟨i, zv, v0, hi, hzv, hzsz, his, hpos, hby, _⟩ := zeroT_info hz hsz c
    obtain ⟨us, hs, hE⟩ := hsrc e sz sy ys fy he hel hsy
    have hul : us.length = ys.length * i.size := by rw [hE.length, his]
    have nothing : ys = [] → ∀ (A : Option Addr) (n cap : Nat), n ≤ cap → (Builtin.append_ #[t, u] ty #[.slice A n cap, yv]).run P c.w = .ok (.slice A n cap) c.w := fun h0 A n cap hle => by
     subst h0
     cases hE
     exact run_append_nothing c.w t u ty e i hu hi A n cap hle yv (by rw [his]; exact hs)
    split at h
    ·rename_i m cp hx'
     obtain rfl := hx.scv
     cases hx with
     | sc _ hsc =>
      simp only [isSc, Bool.and_eq_true, beq_iff_eq] at hsc
      obtain ⟨rfl, rfl⟩ := hsc
      split at h
      ·rename_i hemp
       simp only [List.isEmpty_iff] at hemp
       subst hemp
       simp only [Option.some.injEq] at h
       subst h
       exact ⟨_, c, nothing rfl none 0 0 (Nat.le_refl _), .same hR hL (.sc _ rfl)⟩
      ·rename_i hemp
       simp only [List.isEmpty_iff] at hemp
       split at h
       ·rename_i hmax
        simp only [maxRow] at hmax
        have hpos' : 0 < ys.length := by cases ys with | nil => exact absurd rfl hemp | cons _ _ => simp
        have hby' : ys.length * i.bytes ≤ 281474976710656 := by
         have : ys.length * i.bytes ≤ 1000000000 * 1000 := Nat.mul_le_mul hmax hby
         omega
        have hrun : (Builtin.append_ #[t, u] ty #[.slice none 0 0, yv]).run P c.w = .ok (.slice (some ⟨c.w.heap.size, 0, none⟩) ys.length (grownCap c.w ys.length 0 e)) (c.w.drew.alloc (.cells (us.toArray ++ Builtin.zeroCells zv.cells (grownCap c.w ys.length 0 e - ys.length)) e)) := by
         have := run_append_grow_src (P := P) c.w t u ty e i zv hu hi hzv none 0 0 [] (run_firstCells_none c.w.drew i.size 0 0 0) yv ys.length us (by rw [his]; exact hs) (by omega) (by omega) (by rw [Nat.zero_add, nextslicecap_zero (by omega)]; omega)
         simpa using this
        have hge := grownCap_ge c.w ys.length 0 e
        obtain ⟨c', hw, hst⟩ := newArr_at (lowP_le om L d e).1 (lowP_le om L d e).2 (cur := us.toArray ++ Builtin.zeroCells zv.cells (grownCap c.w ys.length 0 e - ys.length)) (cap := grownCap c.w ys.length 0 e) hR hL h hE
         (w' := c.w.drew.alloc (.cells (us.toArray ++ Builtin.zeroCells zv.cells (grownCap c.w ys.length 0 e - ys.length)) e)) (calm_drew_alloc _ _)
         (fun b hb => World.alloc_old (w := c.w.drew) hb) (by show _ ≤ (c.w.heap.push _).size; simp) (World.alloc_new c.w.drew _) (by simp) hge (by
          simp only [Array.size_append, List.size_toArray, size_zeroCells, hul, his, hzsz, ← Nat.add_mul]
          rw [Nat.add_sub_cancel' hge]; exact Nat.le_refl _)
        exact ⟨_, c', by rw [hw]; exact hrun, hst⟩
       ·cases h
    ·rename_i l g off len
     split at h
     ·rename_i ro g' sz' e' xs hS
      split at h
      ·rename_i hg
       obtain ⟨rfl, hlen⟩ := hg
       cases hx with
       | own _ _ _ _ A cap ho =>
        have ho' := ho
        simp only [OwnOk, hS] at ho'
        obtain ⟨hD, h1, h2, h3⟩ := ho'.2 trivial
        split at h
        ·rename_i hemp
         simp only [List.isEmpty_iff] at hemp
         subst hemp
         simp only [Option.some.injEq] at h
         subst h
         exact ⟨_, c, nothing rfl A len cap h2, .same hR hL (.own _ _ _ _ _ _ ho)⟩
        ·rename_i hemp
         simp only [List.isEmpty_iff] at hemp
         split at h
         ·rename_i hcnd
          obtain ⟨rfl, rfl, rfl, rfl, hmax⟩ := hcnd
          simp only [maxRow] at hmax
          simp only [Option.some.injEq] at h
          subst h
          obtain ⟨cur, fz, vs, hw, hfz, _, hEx, htk⟩ := hR.arr l _ _ _ _ _ hD hS
          obtain rfl := hfz rfl
          have hvl := hEx.length
          have hE2 := (hEx.take len).append hE
          have hpos' : 0 < ys.length := by cases ys with | nil => exact absurd rfl hemp | cons _ _ => simp
          have hby' : (len + ys.length) * i.bytes ≤ 140737488355328 := by
           have : (len + ys.length) * i.bytes ≤ 1000000000 * 1000 := Nat.mul_le_mul hmax hby
           omega
          have hoc : cur.toList.take (len * sz') = vs.take (len * sz') := by
           rw [← htk, List.take_take, Nat.min_eq_left]
           rw [hvl]; exact Nat.mul_le_mul_right _ hlen
          have hvt : (vs.take (len * sz')).length = len * sz' := by
           rw [List.length_take, hvl, Nat.min_eq_left]; exact Nat.mul_le_mul_right _ hlen
          by_cases hroom : len + ys.length ≤ cap
          ·
           obtain ⟨cur', fz', hA, hw', hfit⟩ := h3.resolve_left (by omega)
           rw [hw] at hw'
           simp only [Option.some.injEq, Obj.cells.injEq] at hw'
           obtain ⟨rfl, _, rfl⟩ := hw'
           simp only [Nat.zero_mul, Nat.zero_add] at hA hfit
           subst hA
           have hfit2 : len * i.size + us.length ≤ cur.size := by
            rw [hul, his, ← Nat.add_mul]; exact Nat.le_trans (Nat.mul_le_mul_right _ hroom) hfit
           have hst := run_storeCells_at P (c.β l) (len * i.size) e' us 0 cur c.w hw (by omega) hE.ones
           have hrun : (Builtin.append_ #[t, u] ty #[.slice (some ⟨c.β l, 0, none⟩) len cap, yv]).run P c.w = .ok (.slice (some ⟨c.β l, 0, none⟩) (len + ys.length) cap) (c.w.setRow (c.β l) (cur.toList.take (len * i.size) ++ us ++ cur.toList.drop (len * i.size + us.length)).toArray) := by
            have hs' : Src P i.size u yv ys.length us c.w := by rw [his]; exact hs
            simp only [Nat.add_zero] at hst
            rcases hs'.kind with ⟨e2, hk⟩ | hk <;> simp [Builtin.append_, run_underlying hu, run_underlying hk, sizeOf, typeInfo, hi, hs'.len, hroom, hs'.cells, Addr.add_lit, hst]
           simp only [his] at hrun hfit2
           have hwn := setRow_heap c.w (c.β l) cur (cur.toList.take (len * sz') ++ us ++ cur.toList.drop (len * sz' + us.length)).toArray e' (0, 0) hw
           have hp : PutOk c l (.arr false (g + 1) sz' e' (xs.take len ++ ys)) (c.β l) (c.w.setRow (c.β l) (cur.toList.take (len * sz') ++ us ++ cur.toList.drop (len * sz' + us.length)).toArray) :=
            .inr ⟨g, sz', e', xs, g + 1, _, hS, rfl, .inl (by omega)⟩
           have hoth : ∀ q, q < c.w.heap.size → q ≠ c.β l → (c.w.setRow (c.β l) (cur.toList.take (len * sz') ++ us ++ cur.toList.drop (len * sz' + us.length)).toArray).heap[q]? = c.w.heap[q]? := fun q _ hq => setRow_other _ _ _ _ hq
           have hcs : (cur.toList.take (len * sz') ++ us ++ cur.toList.drop (len * sz' + us.length)).length = cur.size := by
            rw [splice_length _ _ _ (by simpa using hfit2)]; simp
           refine ⟨_, ctxPut c l _ (c.β l) _, hrun, Stp.of_put hD hL (ctxPut_rel hR hD hp hoth (by simp) (.inl rfl) hwn ?_ ?_) (ctxPut_kept hR hD hp hoth)
            (ctxPut_fr hD hp (calm_setRow _ _ _) hoth (by simp) (.inl rfl)) (.own _ _ _ _ _ _ ?_)⟩
           ·intro bt cs he; cases he
           ·intro ro g0 sz0 e0 xs0 heq
            injection heq with a1 a2 a3 a4 a5
            subst a1 a2 a3 a4 a5
            refine ⟨rfl, _, hE2, ?_⟩
            simp only [List.toList_toArray]
            rw [← hoc, List.take_append_of_le_length (by simp)]
            exact List.take_length
           ·have hS' : (ctxPut c l (.arr false (g + 1) sz' e' (xs.take len ++ ys)) (c.β l) (c.w.setRow (c.β l) (cur.toList.take (len * sz') ++ us ++ cur.toList.drop (len * sz' + us.length)).toArray)).S l = some (.arr false (g + 1) sz' e' (xs.take len ++ ys)) := upd_same _ _ _
            simp only [OwnOk, hS']
            refine ⟨Nat.le_refl _, fun _ => ⟨hD, by simp; omega, hroom, .inr ⟨_, _, by simp [ctxPut], by simp only [ctxPut, if_true]; exact hwn, ?_⟩⟩⟩
            simp only [List.size_toArray]
            rw [hcs]
            simpa using hfit
          ·
           have hgrow : ∃ olds : List Value, olds = vs.take (len * sz') ∧ (Builtin.append_ #[t, u] ty #[.slice A len cap, yv]).run P c.w =
             .ok (.slice (some ⟨c.w.heap.size, 0, none⟩) (len + ys.length) (grownCap c.w (len + ys.length) cap e'))
              (c.w.drew.alloc (.cells (olds.toArray ++ us.toArray ++ Builtin.zeroCells zv.cells (grownCap c.w (len + ys.length) cap e' - (len + ys.length))) e')) := by
            refine ⟨_, rfl, ?_⟩
            cases hAc : A with
            | none =>
             have hc0 : cap = 0 := by
              rcases h3 with h | ⟨_, _, hA, _⟩
              ·exact h
              ·rw [hAc] at hA; cases hA
             subst hc0
             obtain rfl : len = 0 := by omega
             have := run_append_grow_src (P := P) c.w t u ty e' i zv hu hi hzv none 0 0 [] (run_firstCells_none c.w.drew i.size 0 0 0) yv ys.length us (by rw [his]; exact hs) (by omega) (by omega) (by rw [Nat.zero_add, nextslicecap_zero (by omega)]; simp only [Nat.zero_add] at hby'; omega)
             simpa using this
            | some ad =>
             have hold := run_firstCells_some (P := P) c.w.drew i.size len ad len cap (vs.take (len * sz')) (by rw [hvt, his]) (fun j v hj => ?_)
             have := run_append_grow_src (P := P) c.w t u ty e' i zv hu hi hzv (some ad) len cap _ hold yv ys.length us (by rw [his]; exact hs) (by omega) (by omega) (growslice_fits (by omega) hby')
             simpa using this
             rw [List.getElem?_take] at hj
             split at hj
             ·rename_i hjl
              have hl0 : len ≠ 0 := by intro h0; subst h0; simp at hjl
              obtain ⟨cur', fz', hA, _, _⟩ := h3.resolve_left (by omega)
              rw [hAc] at hA
              simp only [Nat.zero_mul, Option.some.injEq] at hA
              subst hA
              rw [add_addr, Nat.zero_add, show c.w.drew.cell? _ = c.w.cell? _ from rfl, cell_at hw, ← Array.getElem?_toList]
              exact take_get htk hj
             ·cases hj
           obtain ⟨olds, rfl, hrun⟩ := hgrow
           have hge := grownCap_ge c.w (len + ys.length) cap e'
           have hp : PutOk c l (.arr false (g + 1) sz' e' (xs.take len ++ ys)) c.w.heap.size (c.w.drew.alloc (.cells ((vs.take (len * sz')).toArray ++ us.toArray ++ Builtin.zeroCells zv.cells (grownCap c.w (len + ys.length) cap e' - (len + ys.length))) e')) :=
            .inr ⟨g, sz', e', xs, g + 1, _, hS, rfl, .inl (by omega)⟩
           have hwn := World.alloc_new c.w.drew (.cells ((vs.take (len * sz')).toArray ++ us.toArray ++ Builtin.zeroCells zv.cells (grownCap c.w (len + ys.length) cap e' - (len + ys.length))) e')
           have hoth : ∀ q, q < c.w.heap.size → q ≠ c.β l → (c.w.drew.alloc (.cells ((vs.take (len * sz')).toArray ++ us.toArray ++ Builtin.zeroCells zv.cells (grownCap c.w (len + ys.length) cap e' - (len + ys.length))) e')).heap[q]? = c.w.heap[q]? := fun q hq _ => World.alloc_old (w := c.w.drew) hq
           have hszw : c.w.heap.size ≤ (c.w.drew.alloc (.cells ((vs.take (len * sz')).toArray ++ us.toArray ++ Builtin.zeroCells zv.cells (grownCap c.w (len + ys.length) cap e' - (len + ys.length))) e')).heap.size := by show _ ≤ (c.w.heap.push _).size; simp
           refine ⟨_, ctxPut c l _ c.w.heap.size _, hrun, Stp.of_put hD hL (ctxPut_rel hR hD hp hoth hszw (.inr (Nat.le_refl _)) hwn ?_ ?_) (ctxPut_kept hR hD hp hoth)
            (ctxPut_fr hD hp (calm_drew_alloc _ _) hoth hszw (.inr (Nat.le_refl _))) (.own _ _ _ _ _ _ ?_)⟩
           ·intro bt cs he; cases he
           ·intro ro g0 sz0 e0 xs0 heq
            injection heq with a1 a2 a3 a4 a5
            subst a1 a2 a3 a4 a5
            refine ⟨rfl, _, hE2, ?_⟩
            simp only [Array.toList_append, List.toList_toArray]
            exact List.take_left
           ·have hS' : (ctxPut c l (.arr false (g + 1) sz' e' (xs.take len ++ ys)) c.w.heap.size (c.w.drew.alloc (.cells ((vs.take (len * sz')).toArray ++ us.toArray ++ Builtin.zeroCells zv.cells (grownCap c.w (len + ys.length) cap e' - (len + ys.length))) e'))).S l = some (.arr false (g + 1) sz' e' (xs.take len ++ ys)) := upd_same _ _ _
            simp only [OwnOk, hS']
            refine ⟨Nat.le_refl _, fun _ => ⟨hD, by simp; omega, hge, .inr ⟨_, _, by simp [ctxPut], by simp only [ctxPut, if_true]; exact hwn, ?_⟩⟩⟩
            simp only [Array.size_append, List.size_toArray, size_zeroCells, hul, hvt, his, hzsz, ← Nat.add_mul, Nat.zero_add]
            rw [Nat.add_sub_cancel' hge]; exact Nat.le_refl _
         ·cases h
      ·cases h
     ·cases h
    ·cases h
   ·cases h
  ·cases h

/-- What a slice yields. -/
theorem src_slice {P : Program} {c : Ctx} (hR : Rel c) {t e : TypeId} {sz : Nat} {y : T} {yv : Value} (hu : P.underlying t = some (.slice e)) (hy : Rep c y yv) {sy : Option Nat} {ys : List T} {fy : Nat} (hel : elemsOf c.S y = some (sy, ys, fy))
  (hsy : sy = none ∨ sy = some sz) : ∃ us, Src P sz t yv ys.length us c.w ∧ RepE c sz ys us := by
 obtain ⟨B, n, cap2, rfl, rfl, hsn, hys, _⟩ := elemsOf_rep hR hel hy
 by_cases hne : ys = []
 ·subst hne
  refine ⟨[], ?_, .nil _⟩
  cases B with
  | none => exact Src.ofNil c.w hu cap2
  | some ad => exact Src.ofSlice c.w hu ad 0 cap2 [] (by simp) (fun j v hj => by simp at hj) (fun v hv => by cases hv)
 ·obtain ⟨sz', us, b, o, hs', hE, rfl, hcl⟩ := hys hne
  have : sz' = sz := by
   rcases hsy with h | h
   ·rw [h] at hs'; cases hs'
   ·rw [h] at hs'; exact (Option.some.inj hs').symm
  subst this
  exact ⟨us, Src.ofSlice c.w hu _ _ cap2 us hE.length (fun j v hj => by rw [add_addr]; exact hcl j v hj) hE.ones, hE⟩

theorem appendT_sound {P : Program} {om : FuncId → List Nat} {L : Nat} {c : Ctx} (hR : Rel c) (hL : ∀ l, c.D l → l.1 ≤ L) {d : Option Tmp} {t u ty : TypeId} {x y : T} {xv yv : Value} {re : Res}
  (h : appendT P om L d c.S t u x y = some re) (hx : Rep c x xv) (hy : Rep c y yv) :
  ∃ v c', (Builtin.append_ #[t, u] ty #[xv, yv]).run P c.w = .ok v c'.w ∧ Stp L c re.S re.t v c' := by
 have htu : t = u := by
  unfold appendT at h
  split at h
  ·cases h
  ·rename_i htu; simpa using htu
 subst htu
 exact appendC_sound hR hL h hx fun e sz sy ys fy he hel hsy => src_slice hR (elemT_slice he).1 hy hel hsy

end Go.TM
