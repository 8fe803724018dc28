/- Places, parts, cuts; new variables and rows; records. -/
import Derived.Test.YtioldkniiilhnaaGreatDoorTmOps2
import Derived.Laws.MakeOwn
import Derived.Laws.Tables
set_option linter.all false
namespace Go.TM
open Go
set_option linter.unusedVariables false
set_option linter.unusedSimpArgs false

theorem fieldAddrT_sound {P : Program} {c : Ctx} {s : TypeId} {f : Nat} {a t : T} {av : Value} (h : fieldAddrT P s f a = some t) (ha : Rep c a av) :
  ∃ v, (∀ w, (Instr.fieldAt s av f).run P w = .ok v w) ∧ Rep c t v := by
 unfold fieldAddrT at h
 split at h
 ·rename_i o n ft hf
  split at h
  ·cases h
  ·rename_i hn0
   unfold fieldT at hf
   split at hf
   ·rename_i fs hu
    split at hf
    ·rename_i fd hfd
     split at hf
     ·rename_i n' hsz
      simp only [Option.some.injEq, Prod.mk.injEq] at hf
      obtain ⟨rfl, rfl, rfl⟩ := hf
      have hp : ∀ (w : World) (p : Addr), (fieldPlace p fd).run P w = .ok (p.add fd.offset) w := fun w p => by simp [fieldPlace, Sem.run_bind, sizeOf_run hsz, hn0]
      have hr : ∀ (w : World) (p : Addr), (Instr.fieldAt s (.pointer (some p)) f).run P w = .ok (.pointer (some (p.add fd.offset))) w := fun w p => by
       simp [Instr.fieldAt, Sem.run_bind, run_underlying hu, hfd, Instr.sureAddr, hp]
      cases ha with
      | ptr l off hb =>
       simp only [Option.some.injEq] at h; subst h
       exact ⟨_, fun w => hr w _, by rw [add_addr]; exact .ptr l _ hb⟩
      | lptr sz xs i off b o vs hs hE hc =>
       simp only [Option.some.injEq] at h; subst h
       exact ⟨_, fun w => hr w _, by rw [add_addr, Nat.add_assoc]; exact .lptr sz xs i _ b o vs hs hE hc⟩
      | aptr l g i off p ho =>
       simp only [Option.some.injEq] at h; subst h
       refine ⟨_, fun w => hr w _, .aptr l g i _ _ ?_⟩
       unfold AptrOk at ho ⊢
       cases hS : c.S l with
       | none => simp [hS] at ho
       | some ob =>
        cases ob with
        | box bt cs => simp [hS] at ho
        | gone => trivial
        | arr ro g' sz e xs =>
         simp only [hS] at ho ⊢
         refine ⟨ho.1, fun hg => ?_⟩
         obtain ⟨hD, hi, rfl⟩ := ho.2 hg
         exact ⟨hD, hi, by rw [add_addr, Nat.add_assoc]⟩
      | _ => simp at h
     ·cases hf
    ·cases hf
   ·cases hf
 ·cases h

theorem part_run {P : Program} {c : Ctx} {ft : TypeId} {ag : Bool} {n off : Nat} {cs : List T} {vs : List Value} {x : T} (ha : isAggT P ft = some ag) (hn : szOf P ft = some n)
  (hl : RepL c cs vs) (hx : readAt ag n cs off = some x) : ∃ v, (∀ w, (part ft vs.toArray off).run P w = .ok v w) ∧ Rep c x v := by
 unfold readAt at hx
 cases ag with
 | true =>
  simp only [if_true] at hx
  split at hx
  ·simp only [Option.some.injEq] at hx
   subst hx
   refine ⟨_, fun w => ?_, .agg _ _ ((hl.drop off).take n)⟩
   have : vs.toArray.extract off (off + n) = ((vs.drop off).take n).toArray := by
    apply Array.toList_inj.1
    simp [List.take_drop, Nat.add_comm]
   simp [part, Sem.run_bind, isAgg_run ha, sizeOf_run hn, this]
  ·cases hx
 | false =>
  simp only [Bool.false_eq_true, if_false] at hx
  obtain ⟨v, hv, hr⟩ := hl.get hx
  exact ⟨v, fun w => by simp [part, Sem.run_bind, isAgg_run ha, hv], hr⟩

theorem fieldT_field {P : Program} {c : Ctx} {t ft : TypeId} {f off n : Nat} {cs : List T} {xv : Value} {ag : Bool} {x : T} (hf : fieldT P t f = some (off, n, ft)) (hx : Rep c (.agg cs) xv)
  (ha : isAggT P ft = some ag) (hr : readAt ag n cs off = some x) : ∃ v, (∀ w, (Instr.field t xv f).run P w = .ok v w) ∧ Rep c x v := by
 unfold fieldT at hf
 split at hf
 ·rename_i fs hu
  split at hf
  ·rename_i fd hfd
   split at hf
   ·rename_i n' hsz
    simp only [Option.some.injEq, Prod.mk.injEq] at hf
    obtain ⟨rfl, rfl, rfl⟩ := hf
    cases hx with
    | agg _ vs hl =>
     obtain ⟨v, hv, hrv⟩ := part_run (P := P) ha hsz hl hr
     exact ⟨v, fun w => by simp [Instr.field, Sem.run_bind, run_underlying hu, hfd, asAgg, hv], hrv⟩
   ·cases hf
  ·cases hf
 ·cases hf

theorem idxOk_iff {n : Int} {k : Nat} (h : idxOk n k = true) : 0 ≤ n ∧ n < k := by simpa [idxOk] using h

theorem indexAddrT_sound {P : Program} {c : Ctx} (hR : Rel c) {t : TypeId} {x i r : T} {xv iv : Value} (h : indexAddrT P c.S t x i = some r) (hx : Rep c x xv) (hi : Rep c i iv) :
  ∃ v, (∀ w, (Instr.indexAt t xv iv).run P w = .ok v w) ∧ Rep c r v := by
 unfold indexAddrT at h
 split at h
 ·rename_i k n
  obtain rfl := hi.scv
  split at h
  ·rename_i e hu
   split at h
   ·rename_i sz sz' xs hsz
    split at h
    ·rename_i hss
     subst hss
     cases hb : idxOk n xs.length with
     | false => simp [hb] at h
     | true =>
      simp only [hb, cond_true, Option.some.injEq] at h
      subst h
      obtain ⟨h0, h1⟩ := idxOk_iff hb
      cases hx with
      | lst0 _ A cap => simp at h1; omega
      | lst _ _ b o cap vs hs hE hc hcap =>
       refine ⟨_, fun w => ?_, .lptr sz xs n.toNat 0 b o vs hs hE hc⟩
       simp [Instr.indexAt, Sem.run_bind, asIntOf, run_underlying hu, sizeOf_run hsz, h0, h1, add_addr]
    ·cases h
   ·rename_i sz l g off len hsz
    split at h
    ·rename_i ro g' sz' e' xs hS
     split at h
     ·rename_i hg
      obtain ⟨rfl, rfl, hlen⟩ := hg
      cases hb : idxOk n len with
      | false => simp [hb] at h
      | true =>
       simp only [hb, cond_true, Option.some.injEq] at h
       subst h
       obtain ⟨h0, h1⟩ := idxOk_iff hb
       cases hx with
       | own _ _ _ _ A cap ho =>
        simp only [OwnOk, hS] at ho
        obtain ⟨hD, _, hc, hA⟩ := ho.2 trivial
        obtain ⟨cur, fz, rfl, hw, hsz'⟩ := hA.resolve_left (by omega)
        refine ⟨.pointer (some ⟨c.β l, off * sz + n.toNat * sz, none⟩), fun w => by simp [Instr.indexAt, Sem.run_bind, asIntOf, run_underlying hu, sizeOf_run hsz, h0, h1, add_addr], .aptr _ _ _ _ _ ?_⟩
        simp only [AptrOk, hS]
        exact ⟨Nat.le_refl _, fun _ => ⟨hD, by omega, by simp [Nat.add_mul]⟩⟩
     ·cases h
    ·cases h
   ·cases h
  ·rename_i len e hu
   split at h
   ·rename_i sz l off hsz
    cases hb : idxOk n len with
    | false => simp [hb] at h
    | true =>
     simp only [hb, cond_true, Option.some.injEq] at h
     subst h
     obtain ⟨h0, h1⟩ := idxOk_iff hb
     cases hx with
     | ptr _ _ hbx =>
      refine ⟨.pointer (some ⟨c.β l, off + n.toNat * sz, none⟩), fun w => ?_, .ptr l _ hbx⟩
      simp [Instr.indexAt, Sem.run_bind, asIntOf, run_underlying hu, Instr.sureAddr, sizeOf_run hsz, h0, h1, add_addr]
   ·cases h
  ·cases h
 ·cases h

theorem elemT_slice {P : Program} {t e : TypeId} {sz : Nat} (h : elemT P t = some (e, sz)) : P.underlying t = some (.slice e) ∧ szOf P e = some sz := by
 unfold elemT at h
 split at h
 ·rename_i e' hu
  cases hs : szOf P e' with
  | none => simp [hs] at h
  | some n => simp [hs] at h; obtain ⟨rfl, rfl⟩ := h; exact ⟨hu, hs⟩
 ·cases h

theorem len_run {P : Program} {t ty e : TypeId} {sz n cap : Nat} {A : Option Addr} (h : elemT P t = some (e, sz)) (w : World) :
  (Builtin.len_ #[t] ty #[.slice A n cap]).run P w = .ok (.int .i64 n) w := by
 obtain ⟨hu, _⟩ := elemT_slice h
 simp [Builtin.len_, run_underlying hu, goInt]

/-! ### new variables -/
theorem World.alloc_old {w : World} {o : Go.Obj} {b : Nat} (h : b < w.heap.size) : (w.alloc o).heap[b]? = w.heap[b]? := by
 show (w.heap.push o)[b]? = _
 rw [Array.getElem?_push, if_neg (by omega)]

theorem World.alloc_new (w : World) (o : Go.Obj) : (w.alloc o).heap[w.heap.size]? = some o := by
 show (w.heap.push o)[w.heap.size]? = _
 simp

theorem ctxNew_full (c : Ctx) (l : Loc) (o : Obj) (w' : World) (h : ∀ m, c.S m ≠ none → c.D m) (m : Loc) (hm : (ctxNew c l o w').S m ≠ none) : (ctxNew c l o w').D m := by
 by_cases e : m = l
 ·exact .inr e
 ·exact .inl (h m (by simpa [ctxNew, upd_ne _ _ e] using hm))

theorem newBox_sound {L : Nat} {c : Ctx} (hR : Rel c) (hL : ∀ l, c.D l → l.1 ≤ L) {d : Option Tmp} {cs : List T} {vs : List Value} {ty : TypeId} {re : Res} (h : newBox L d ty cs c.S = some re) (hl : RepL c cs vs) :
  ∃ c', c'.w = c.w.alloc (.cells vs.toArray ty) ∧ Stp L c re.S re.t (.pointer (some ⟨c.w.heap.size, 0, none⟩)) c' := by
 unfold newBox at h
 split at h
 ·rename_i d
  split at h
  ·rename_i hc
   simp only [Bool.and_eq_true, Option.isNone_iff_eq_none] at hc
   obtain ⟨⟨hn, hlv⟩, hon⟩ := hc
   simp only [Option.some.injEq] at h
   subst h
   have ho : ∀ b, b < c.w.heap.size → (c.w.alloc (.cells vs.toArray ty)).heap[b]? = c.w.heap[b]? := fun b hb => World.alloc_old hb
   have hsz : c.w.heap.size ≤ (c.w.alloc (.cells vs.toArray ty)).heap.size := by show _ ≤ (c.w.heap.push _).size; simp
   refine ⟨ctxNew c (L, d) (.box ty cs) _, rfl, ctxNew_rel hR hn ho hsz (World.alloc_new _ _) ?_ ?_, ctxNew_kept hn ho hR, ctxNew_fr hR hn ⟨rfl, rfl, rfl⟩ ho hsz, rfl, ?_, ?_, ?_, ctxNew_full _ _ _ _⟩
   ·intro bt' cs' he
    injection he with he0 he
    subst he0 he
    exact ⟨rfl, hlv, vs, rfl, hl⟩
   ·intro ro g sz e xs he; cases he
   ·have := Rep.ptr (c := ctxNew c (L, d) (.box ty cs) (c.w.alloc (.cells vs.toArray ty))) (L, d) 0 ⟨.inr rfl, ty, cs, upd_same _ _ _⟩
    simpa [ctxNew] using this
   ·rintro l (hl | rfl)
    ·exact hL l hl
    ·exact Nat.le_refl _
   ·rintro l (hl | rfl)
    ·exact .inl hl
    ·exact .inr (.inl rfl)
  ·cases h
 ·cases h

theorem scs_rep (c : Ctx) : ∀ (vs : List Value), vs.all isSc = true → RepL c (vs.map .sc) vs
 | [], _ => .nil
 | v :: vs, h => by
  simp only [List.all_cons, Bool.and_eq_true] at h
  exact .cons _ _ _ _ (.sc v h.1) (scs_rep c vs h.2)

theorem zeroCellsT_rep {P : Program} {e : TypeId} {z : List T} (h : zeroCellsT P e = some z) (c : Ctx) : ∃ i v, P.info? e = some i ∧ i.zero = some v ∧ RepL c z v.cells.toList := by
 unfold zeroCellsT at h
 split at h
 ·rename_i i hi
  split at h
  ·rename_i v hv
   split at h
   ·rename_i ha
    simp only [Option.some.injEq] at h
    subst h
    exact ⟨i, v, hi, hv, scs_rep c _ ha⟩
   ·cases h
  ·cases h
 ·cases h

theorem alloc_sound {P : Program} {L : Nat} {c : Ctx} (hR : Rel c) (hL : ∀ l, c.D l → l.1 ≤ L) {e : TypeId} {d : Option Tmp} {z : List T} {re : Res} (hz : zeroCellsT P e = some z) (h : newBox L d e z c.S = some re) :
  ∃ v c', (Instr.alloc e true (.tuple #[])).run P c.w = .ok v c'.w ∧ Stp L c re.S re.t v c' := by
 obtain ⟨i, v, hi, hv, hr⟩ := zeroCellsT_rep hz c
 obtain ⟨c', hw, hs⟩ := newBox_sound (ty := e) hR hL h hr
 refine ⟨_, c', ?_, hs⟩
 rw [hw]
 simp [Instr.alloc, zeroValue, typeInfo, hi, hv, newVar, newRow]

theorem box_sound {P : Program} {L : Nat} {c : Ctx} (hR : Rel c) (hL : ∀ l, c.D l → l.1 ≤ L) {e : TypeId} {d : Option Tmp} {t : T} {tv : Value} {re : Res} (ht : Rep c t tv) (h : newBox L d e t.cells c.S = some re) :
  ∃ v c', (Instr.box e tv).run P c.w = .ok v c'.w ∧ Stp L c re.S re.t v c' := by
 have hon : t.cells.all one = true := by
  unfold newBox at h
  split at h
  ·split at h
   ·rename_i hc; simp only [Bool.and_eq_true] at hc; exact hc.2
   ·cases h
  ·cases h
 obtain ⟨c', hw, hs⟩ := newBox_sound (ty := e) hR hL h (ht.cells hon)
 refine ⟨_, c', ?_, hs⟩
 rw [hw]
 simp [Instr.box, newVar, newRow]

/-! ### new rows -/
theorem newArr_at {L L' : Nat} (hle : L' ≤ L) (hlo : L' = L ∨ 1 ≤ L') {c : Ctx} (hR : Rel c) (hL : ∀ l, c.D l → l.1 ≤ L) {d : Option Tmp} {sz : Nat} {e : TypeId} {xs : List T} {vs : List Value} {eff : Nat} {re : Res} (h : newArr L' d sz e xs c.S eff = some re)
  (hE : RepE c sz xs vs) {w' : World} {cur : Array Value} (hc : Calm c.w w') (ho : ∀ b, b < c.w.heap.size → w'.heap[b]? = c.w.heap[b]?) (hsz : c.w.heap.size ≤ w'.heap.size)
  (hn : w'.heap[c.w.heap.size]? = some (.cells cur e (0, 0))) (htk : cur.toList.take vs.length = vs) {cap : Nat} (hcap : xs.length ≤ cap) (hfit : cap * sz ≤ cur.size) :
  ∃ c', c'.w = w' ∧ Stp L c re.S re.t (.slice (some ⟨c.w.heap.size, 0, none⟩) xs.length cap) c' := by
 unfold newArr at h
 split at h
 ·rename_i d
  split at h
  ·rename_i hnone
   simp only [Option.isNone_iff_eq_none] at hnone
   simp only [Option.some.injEq] at h
   subst h
   refine ⟨ctxNew c (L', d) (.arr false 0 sz e xs) w', rfl, ctxNew_rel hR hnone ho hsz hn ?_ ?_, ctxNew_kept hnone ho hR, ctxNew_fr hR hnone hc ho hsz, rfl, .own _ _ _ _ _ _ ?_, ?_, ?_, ctxNew_full _ _ _ _⟩
   ·intro bt cs he; cases he
   ·intro ro g sz' e' xs' he
    injection he with h1 h2 h3 h4 h5
    subst h1 h2 h3 h4 h5
    exact ⟨rfl, rfl, vs, hE, htk⟩
   ·have hS : (ctxNew c (L', d) (.arr false 0 sz e xs) w').S (L', d) = some (.arr false 0 sz e xs) := upd_same _ _ _
    simp only [OwnOk, hS]
    refine ⟨Nat.le_refl _, fun _ => ⟨.inr rfl, by omega, hcap, .inr ⟨cur, (0, 0), by simp [ctxNew], ?_, by simpa using hfit⟩⟩⟩
    simp [ctxNew, hn]
   ·rintro l (hl | rfl)
    ·exact hL l hl
    ·exact hle
   ·rintro l (hl | rfl)
    ·exact .inl hl
    ·exact .inr hlo
  ·cases h
 ·cases h

theorem newArr_sound {L : Nat} {c : Ctx} (hR : Rel c) (hL : ∀ l, c.D l → l.1 ≤ L) {d : Option Tmp} {sz : Nat} {e : TypeId} {xs : List T} {vs : List Value} {eff : Nat} {re : Res} (h : newArr L d sz e xs c.S eff = some re)
  (hE : RepE c sz xs vs) {w' : World} {cur : Array Value} (hc : Calm c.w w') (ho : ∀ b, b < c.w.heap.size → w'.heap[b]? = c.w.heap[b]?) (hsz : c.w.heap.size ≤ w'.heap.size)
  (hn : w'.heap[c.w.heap.size]? = some (.cells cur e (0, 0))) (htk : cur.toList.take vs.length = vs) {cap : Nat} (hcap : xs.length ≤ cap) (hfit : cap * sz ≤ cur.size) :
  ∃ c', c'.w = w' ∧ Stp L c re.S re.t (.slice (some ⟨c.w.heap.size, 0, none⟩) xs.length cap) c' := newArr_at (Nat.le_refl L) (.inl rfl) hR hL h hE hc ho hsz hn htk hcap hfit

theorem lowP_le (om : FuncId → List Nat) (L : Nat) (d : Option Tmp) (e : TypeId) : (lowP om L d e).1 ≤ L ∧ ((lowP om L d e).1 = L ∨ 1 ≤ (lowP om L d e).1) := by
 unfold lowP
 cases h : ((om 1000000000).contains e && decide (2 ≤ L)) with
 | true =>
  simp only [Bool.and_eq_true, decide_eq_true_eq] at h
  simp only [cond_true]
  exact ⟨by omega, .inr (by omega)⟩
 | false => exact ⟨Nat.le_refl _, .inl rfl⟩

theorem madeCells_rep (z : Array Value) (m : Nat) (hz : 0 < z.size) : (madeCells z (m * z.size)).toList = (List.replicate m z.toList).flatten := by
 induction m with
 | zero => simp [madeCells]
 | succ m ih =>
  rw [List.replicate_succ', List.flatten_append, ← ih]
  simp only [madeCells, Array.toList_map, Array.toList_range, Nat.add_mul, Nat.one_mul, List.range_add, List.map_append, List.map_map]
  congr 1
  simp only [List.flatten_cons, List.flatten_nil, List.append_nil]
  apply List.ext_getElem
  ·simp
  ·intro i h1 h2
   simp only [List.length_map, List.length_range] at h1
   simp [Nat.mul_add_mod_of_lt h1, Nat.mul_comm m, Nat.mod_eq_of_lt h1, h1]

theorem repE_replicate {c : Ctx} {z : T} {v : Value} {sz : Nat} (h : Rep c z v) (hl : z.cells.length = sz) (hcl : closed z = true) : ∀ m, RepE c sz (List.replicate m z) ((List.replicate m v.cells.toList).flatten)
 | 0 => .nil sz
 | m + 1 => by
  rw [List.replicate_succ, List.replicate_succ, List.flatten_cons]
  exact .cons sz z v _ _ h hl hcl (repE_replicate h hl hcl m)

/-- An element type's zero, as a tree. -/
theorem zeroT_info {P : Program} {e : TypeId} {z : T} {sz : Nat} (h : zeroT P e = some z) (hs : szOf P e = some sz) (c : Ctx) :
  ∃ i zv v, P.info? e = some i ∧ i.zero = some zv ∧ zv.cells.size = sz ∧ i.size = sz ∧ 0 < sz ∧ i.bytes ≤ 1000 ∧ Rep c z v ∧ v.cells.toList = zv.cells.toList ∧ z.cells.length = sz ∧ closed z = true := by
 unfold zeroT at h
 split at h
 ·rename_i i ag hi hag
  split at h
  ·rename_i zv hzv
   split at h
   ·rename_i hc
    simp only [Bool.and_eq_true, decide_eq_true_eq] at hc
    obtain ⟨⟨⟨hall, hsize⟩, hpos⟩, hby⟩ := hc
    have hsz : i.size = sz := by simpa [szOf, hi] using hs
    cases ag with
    | true =>
     simp only [if_true, Option.some.injEq] at h
     subst h
     refine ⟨i, zv, .agg zv.cells.toList.toArray, hi, hzv, hsize.trans hsz, hsz, by omega, hby, .agg _ _ (scs_rep c _ hall), by simp [Value.cells], by simp [T.cells, hsize, hsz], ?_⟩
     have key : ∀ vs : List Value, vs.all isSc = true → closedL (vs.map .sc) = true ∧ (vs.map T.sc).all one = true := by
      intro vs
      induction vs with
      | nil => intro _; exact ⟨rfl, rfl⟩
      | cons v vs ih =>
       intro hv
       simp only [List.all_cons, Bool.and_eq_true] at hv
       obtain ⟨h1, h2⟩ := ih hv.2
       exact ⟨by simp [closedL, closed, hv.1, h1], by simp only [List.map_cons, List.all_cons, one, h2, Bool.and_true]⟩
     obtain ⟨h1, h2⟩ := key _ hall
     simp only [closed, h1, h2, Bool.and_self]
    | false =>
     simp only [Bool.false_eq_true, if_false] at h
     split at h
     ·rename_i h1
      have hlt : 0 < zv.cells.size := by omega
      rw [Array.getElem?_eq_getElem hlt] at h
      simp only [Option.map_some, Option.some.injEq] at h
      subst h
      have hsc : isSc zv.cells[0] = true := List.all_eq_true.1 hall _ (by simp)
      refine ⟨i, zv, zv.cells[0], hi, hzv, hsize.trans hsz, hsz, by omega, hby, .sc _ hsc, ?_, by simp [T.cells]; omega, by simp [closed, hsc]⟩
      rw [isSc_cells hsc]
      apply List.ext_getElem
      ·simp [h1]
      ·intro j hj1 hj2
       simp at hj1
       subst hj1
       simp
     ·cases h
   ·cases h
  ·cases h
 ·cases h

theorem makeT_sound {P : Program} {L : Nat} {c : Ctx} (hR : Rel c) (hL : ∀ l, c.D l → l.1 ≤ L) {d : Option Tmp} {t : TypeId} {l cp : T} {lv cv : Value} {re : Res} (h : makeT P L d c.S t l cp = some re)
  (hl : Rep c l lv) (hc : Rep c cp cv) : ∃ v c', (Instr.makeSlice t lv cv).run P c.w = .ok v c'.w ∧ Stp L c re.S re.t v c' := by
 unfold makeT at h
 split at h
 ·rename_i e sz kl n kc m he
  obtain rfl := hl.scv
  obtain rfl := hc.scv
  obtain ⟨hu, hsz⟩ := elemT_slice he
  split at h
  ·rename_i z hz
   split at h
   ·rename_i hb
    obtain ⟨h0, hnm, hm⟩ := hb
    simp only [maxRow] at hm
    obtain ⟨i, zv, v, hi, hzv, hzs, his, hpos, hby, hrep, hcells, hlen, hcl⟩ := zeroT_info hz hsz c
    have hbm : (i.bytes : Int) * m ≤ 281474976710656 := by
     have h1 : (i.bytes : Int) * m ≤ 1000 * m := Int.mul_le_mul_of_nonneg_right (by omega) (by omega)
     omega
    have hrun := run_make (P := P) c.w t e i zv hu hi hzv kl kc n m h0 hnm hbm (by omega)
    have hmr := madeCells_rep zv.cells m.toNat (by omega)
    have hE := repE_replicate hrep hlen hcl n.toNat
    have hEl := hE.length
    obtain ⟨c', hw, hs⟩ := newArr_sound (cur := madeCells zv.cells (m.toNat * i.size)) (cap := m.toNat) hR hL h hE (w' := c.w.alloc (.cells (madeCells zv.cells (m.toNat * i.size)) e)) ⟨rfl, rfl, rfl⟩
     (fun b hb => World.alloc_old hb) (by show _ ≤ (c.w.heap.push _).size; simp) (World.alloc_new _ _) (by
      rw [his, ← hzs, hmr, hcells, show m.toNat = n.toNat + (m.toNat - n.toNat) from by omega, ← List.replicate_append_replicate, List.flatten_append]
      exact List.take_left) (by simp; omega) (by rw [size_madeCells, his]; exact Nat.le_refl _)
    rw [List.length_replicate] at hs
    exact ⟨_, c', by rw [hw]; exact hrun, hs⟩
   ·cases h
  ·cases h
 ·cases h

end Go.TM
