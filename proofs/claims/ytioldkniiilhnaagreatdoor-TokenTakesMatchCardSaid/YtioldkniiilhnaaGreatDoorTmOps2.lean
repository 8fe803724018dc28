/- Loads and stores. -/
import Derived.Test.YtioldkniiilhnaaGreatDoorTmOps1
import Derived.Laws.Rows
import Derived.Laws.CopyRow
set_option linter.all false
namespace Go.TM
open Go
set_option linter.unusedVariables false
set_option linter.unusedSimpArgs false

/-- What an operation has done: the context behind it, and its value. -/
structure Stp (L : Nat) (c : Ctx) (S' : Store) (t : T) (v : Value) (c' : Ctx) : Prop where
 rel : Rel c'
 kept : Kept c c'
 fr : Fr c c'
 S : c'.S = S'
 rep : Rep c' t v
 lev : ∀ l, c'.D l → l.1 ≤ L
 new : ∀ l, c'.D l → c.D l ∨ l.1 = L ∨ 1 ≤ l.1
 full : (∀ l, c.S l ≠ none → c.D l) → ∀ l, c'.S l ≠ none → c'.D l

theorem Stp.same {L : Nat} {c : Ctx} (hR : Rel c) (hL : ∀ l, c.D l → l.1 ≤ L) {t : T} {v : Value} (h : Rep c t v) : Stp L c c.S t v c :=
 ⟨hR, .refl c, .refl c, rfl, h, hL, fun _ h => .inl h, fun h => h⟩

theorem isAgg_run {P : Program} {t : TypeId} {b : Bool} (h : isAggT P t = some b) (w : World) : (isAgg t).run P w = .ok b w := by
 unfold isAggT at h
 unfold isAgg
 split at h
 ·rename_i fs hu
  simp only [Option.some.injEq] at h; subst h
  simp [Sem.run_bind, run_underlying hu]
 ·rename_i n e hu
  simp only [Option.some.injEq] at h; subst h
  simp [Sem.run_bind, run_underlying hu]
 ·rename_i d h1 h2 hu
  simp only [Option.some.injEq] at h; subst h
  simp only [Sem.run_bind, run_underlying hu, Result.andThen]
  cases d <;> simp_all
 ·cases h

theorem szOf_info {P : Program} {t : TypeId} {n : Nat} (h : szOf P t = some n) : ∃ i, P.info? t = some i ∧ i.size = n := by
 unfold szOf at h
 cases hi : P.info? t with
 | none => simp [hi] at h
 | some i => exact ⟨i, rfl, by simpa [hi] using h⟩

theorem sizeOf_run {P : Program} {t : TypeId} {n : Nat} (h : szOf P t = some n) (w : World) : (sizeOf t).run P w = .ok n w := by
 obtain ⟨i, hi, rfl⟩ := szOf_info h
 simp [sizeOf, typeInfo, hi]

theorem add_addr (b o i : Nat) : (⟨b, o, none⟩ : Addr).add i = ⟨b, o + i, none⟩ := by
 unfold Addr.add
 split <;> simp_all

theorem load_run {P : Program} {w : World} {c : Ctx} {t : TypeId} {b o : Nat} {cs : List T} {us : List Value} {ag : Bool} {n off : Nat} {x : T}
  (ha : isAggT P t = some ag) (hn : szOf P t = some n) (hl : RepL c cs us) (hc : ∀ i u, us[i]? = some u → w.cell? ⟨b, o + i, none⟩ = some u) (hx : readAt ag n cs off = some x) :
  ∃ v, (Instr.loadAt t (.pointer (some ⟨b, o + off, none⟩))).run P w = .ok v w ∧ Rep c x v := by
 unfold readAt at hx
 cases ag with
 | true =>
  simp only [if_true] at hx
  split at hx
  ·rename_i hlen
   simp only [Option.some.injEq] at hx
   subst hx
   have hr := (hl.drop off).take n
   have hul : ((us.drop off).take n).length = n := hr.length.trans hlen
   have hld := run_loadCells_list (P := P) (w := w) ⟨b, o + off, none⟩ ((us.drop off).take n) (fun j v hj => by
    rw [add_addr]
    rw [List.getElem?_take] at hj
    split at hj
    ·rw [List.getElem?_drop] at hj
     have := hc (off + j) v hj
     rw [← Nat.add_assoc] at this
     exact this
    ·cases hj)
   rw [hul] at hld
   refine ⟨_, ?_, .agg _ _ hr⟩
   simp [Instr.loadAt, Instr.sureAddr, loadVar, Sem.run_bind, isAgg_run ha, sizeOf_run hn, hld]
  ·cases hx
 | false =>
  simp only [Bool.false_eq_true, if_false] at hx
  obtain ⟨v, hv, hr⟩ := hl.get hx
  refine ⟨v, ?_, hr⟩
  have := hc off v hv
  simp [Instr.loadAt, Instr.sureAddr, loadVar, Sem.run_bind, isAgg_run ha, load, Sem.run, this]

theorem cell_at {w : World} {b : Nat} {cur : Array Value} {e : TypeId} {fz : Nat × Nat} (h : w.heap[b]? = some (.cells cur e fz)) (i : Nat) : w.cell? ⟨b, i, none⟩ = cur[i]? := by
 simp [World.cell?, h]

theorem take_get {cur : List Value} {vs : List Value} (h : cur.take vs.length = vs) {i : Nat} {v : Value} (hi : vs[i]? = some v) : cur[i]? = some v := by
 rw [← h, List.getElem?_take] at hi
 split at hi
 ·exact hi
 ·cases hi

/-- Element i's cells in the row. -/
theorem RepE.cellsAt {c : Ctx} {sz : Nat} {xs : List T} {vs : List Value} (h : RepE c sz xs vs) {i : Nat} {x : T} (hx : xs[i]? = some x) :
  ∃ us, RepL c x.cells us ∧ ∀ j u, us[j]? = some u → vs[i * sz + j]? = some u := by
 obtain ⟨hcl, hlen, v, hv, he⟩ := h.get hx
 refine ⟨_, hv.cells (closed_ones hcl), fun j u hj => ?_⟩
 rw [he, List.getElem?_take] at hj
 split at hj
 ·rwa [List.getElem?_drop] at hj
 ·cases hj

theorem loadT_sound {P : Program} {L : Nat} {c : Ctx} (hR : Rel c) (hL : ∀ l, c.D l → l.1 ≤ L) {t : TypeId} {a : T} {av : Value} {re : Res} (h : loadT P c.S t a = some re) (ha : Rep c a av) :
  ∃ v, (Instr.loadAt t av).run P c.w = .ok v c.w ∧ Stp L c re.S re.t v c := by
 unfold loadT at h
 split at h
 ·rename_i ag n hag hn
  split at h
  ·rename_i l off
   split at h
   ·rename_i bt cs hS
    cases hx : readAt ag n cs off with
    | none => simp [hx] at h
    | some x =>
     simp only [hx, Option.map_some, Option.some.injEq] at h
     subst h
     cases ha with
     | ptr _ _ hb =>
      obtain ⟨_, vs, hw, hrl⟩ := hR.box l bt cs hb.1 hS
      obtain ⟨v, hv, hr⟩ := load_run (w := c.w) (b := c.β l) (o := 0) hag hn hrl (fun i u hi => by rw [cell_at hw]; simpa using hi) hx
      rw [Nat.zero_add] at hv
      exact ⟨v, hv, .same hR hL hr⟩
   ·cases h
  ·rename_i sz xs i off
   split at h
   ·rename_i x hxi
    cases hx : readAt ag n x.cells off with
    | none => simp [hx] at h
    | some y =>
     simp only [hx, Option.map_some, Option.some.injEq] at h
     subst h
     cases ha with
     | lptr _ _ _ _ b o vs hsh hE hc =>
      obtain ⟨us, hus, hcell⟩ := hE.cellsAt hxi
      obtain ⟨v, hv, hr⟩ := load_run (w := c.w) (b := b) (o := o + i * sz) hag hn hus (fun j u hj => by
       rw [Nat.add_assoc]; exact hc _ _ (hcell j u hj)) hx
      exact ⟨v, hv, .same hR hL hr⟩
   ·cases h
  ·rename_i l g i off
   split at h
   ·rename_i ro g' sz e xs hS
    split at h
    ·rename_i hg
     subst hg
     split at h
     ·rename_i x hxi
      cases hx : readAt ag n x.cells off with
      | none => simp [hx] at h
      | some y =>
       simp only [hx, Option.map_some, Option.some.injEq] at h
       subst h
       cases ha with
       | aptr _ _ _ _ p ho =>
        simp only [AptrOk, hS] at ho
        obtain ⟨hD, hi, rfl⟩ := ho.2 trivial
        obtain ⟨cur, fz, vs, hw, _, _, hE, htk⟩ := hR.arr l ro _ _ _ _ hD hS
        obtain ⟨us, hus, hcell⟩ := hE.cellsAt hxi
        obtain ⟨v, hv, hr⟩ := load_run (w := c.w) (b := c.β l) (o := i * sz) hag hn hus (fun j u hj => by
         rw [cell_at hw, ← Array.getElem?_toList]; exact take_get htk (hcell j u hj)) hx
        exact ⟨v, hv, .same hR hL hr⟩
     ·cases h
    ·cases h
   ·cases h
  ·cases h
 ·cases h

theorem splice_length {α : Type} (cs : List α) (off : Nat) (ys : List α) (h : off + ys.length ≤ cs.length) : (cs.take off ++ ys ++ cs.drop (off + ys.length)).length = cs.length := by
 simp; omega

theorem RepL.splice {c : Ctx} {cs : List T} {vs : List Value} (h : RepL c cs vs) {ys : List T} {us : List Value} (hy : RepL c ys us) (off : Nat) :
  RepL c (splice cs off ys) (vs.take off ++ us ++ vs.drop (off + us.length)) := by
 unfold TM.splice
 rw [hy.length]
 exact ((h.take off).append hy).append (h.drop _)

theorem lvleL_iff {n : Nat} {ts : List T} : lvleL n ts = true ↔ ∀ t ∈ ts, lvle n t = true := by
 induction ts with
 | nil => simp [lvleL]
 | cons x xs ih => simp [lvleL, ih]

theorem lvle_cells {n : Nat} {t : T} (h : lvle n t = true) : lvleL n t.cells = true := by
 cases t <;> simp [T.cells, lvleL, lvle] at * <;> assumption

theorem splice_all {p : T → Bool} {cs ys : List T} {off : Nat} (h : cs.all p = true) (hy : ys.all p = true) : (splice cs off ys).all p = true := by
 rw [List.all_eq_true] at *
 intro x hx
 simp only [splice, List.mem_append] at hx
 rcases hx with (hx | hx) | hx
 ·exact h x (List.mem_of_mem_take hx)
 ·exact hy x hx
 ·exact h x (List.mem_of_mem_drop hx)

theorem storeCells_run {P : Program} {w : World} {t : TypeId} {b o : Nat} {cur : Array Value} {ty : TypeId} {v : Value} {n : Nat} (hn : szOf P t = some n) (hv : v.cells.size = n)
  (hw : w.heap[b]? = some (.cells cur ty (0, 0))) (hfit : o + n ≤ cur.size) (h1 : ∀ u ∈ v.cells.toList, u.oneCell' = true) :
  (Instr.storeAt t (.pointer (some ⟨b, o, none⟩)) v).run P w = .ok () (w.setRow b (cur.toList.take o ++ v.cells.toList ++ cur.toList.drop (o + n)).toArray) := by
 have hst := run_storeCells_at P b o ty v.cells.toList 0 cur w hw (by simpa [hv] using hfit) h1
 simp only [Nat.add_zero, Array.length_toList, hv] at hst
 simp [Instr.storeAt, Instr.sureAddr, storeVar, Sem.run_bind, sizeOf_run hn, hv, hst]

theorem calm_setRow (w : World) (b : Nat) (cs : Array Value) : Calm w (w.setRow b cs) := ⟨rfl, rfl, rfl⟩

theorem Stp.of_put {L : Nat} {c : Ctx} {l : Loc} {o : Obj} {b : Nat} {w' : World} (hD : c.D l) (hL : ∀ l, c.D l → l.1 ≤ L) (hr : Rel (ctxPut c l o b w')) (hk : Kept c (ctxPut c l o b w'))
  (hf : Fr c (ctxPut c l o b w')) {t : T} {v : Value} (hv : Rep (ctxPut c l o b w') t v) : Stp L c (upd c.S l o) t v (ctxPut c l o b w') :=
 ⟨hr, hk, hf, rfl, hv, hL, fun _ h => .inl h, fun h m hm => by
  by_cases e : m = l
  ·subst e; exact hD
  ·exact h m (by simpa [ctxPut, upd_ne _ _ e] using hm)⟩

theorem setRo_none {S : Store} {ls : List Loc} {l : Loc} : setRo S ls l = none ↔ S l = none := by
 unfold setRo
 cases hS : S l with
 | none => simp
 | some o => cases o <;> simp

theorem Stp.after_shut {L : Nat} {c c' : Ctx} {ls : List Loc} (hR : Rel c) {S' : Store} {t : T} {v : Value} (h : Stp L (ctxShut c ls) S' t v c') : Stp L c S' t v c' :=
 ⟨h.rel, (ctxShut_kept c ls).trans h.kept, (ctxShut_fr hR ls).trans h.fr, h.S, h.rep, h.lev, fun l hl => h.new l hl, fun hf => h.full fun l hl => hf l fun h0 => hl (setRo_none.2 h0)⟩

theorem storeT_sound {P : Program} {L : Nat} {c : Ctx} (hR : Rel c) (hL : ∀ l, c.D l → l.1 ≤ L) {t : TypeId} {a y : T} {av yv : Value} {re : Res} (h : storeT P c.S t a y = some re) (ha : Rep c a av) (hy : Rep c y yv) :
  ∃ c', (Instr.storeAt t av yv).run P c.w = .ok () c'.w ∧ Stp L c re.S re.t undef c' := by
 unfold storeT at h
 split at h
 ·rename_i n hn
  split at h
  ·rename_i hlen
   split at h
   ·rename_i l off
    split at h
    ·rename_i bt cs hS
     split at h
     ·rename_i hc
      obtain ⟨hfit, hlv, hon⟩ := hc
      simp only [Option.some.injEq] at h
      subst h
      cases ha with
      | ptr _ _ hb =>
       obtain ⟨h1, vs, hw, hrl⟩ := hR.box l bt cs hb.1 hS
       have hcl := hy.cells hon
       have hys : yv.cells.toList.length = n := hcl.length.trans hlen
       have hvl := hrl.length
       have hrun := storeCells_run (P := P) (v := yv) hn (by simpa using hys) hw (o := off) (by simp [hvl]; exact hfit) (hcl.ones hon)
       have hp : PutOk c l (.box bt (splice cs off y.cells)) (c.β l) (c.w.setRow (c.β l) (vs.take off ++ yv.cells.toList ++ vs.drop (off + n)).toArray) := .inl ⟨bt, cs, _, hS, rfl, rfl⟩
       have hoth : ∀ x, x < c.w.heap.size → x ≠ c.β l → (c.w.setRow (c.β l) (vs.take off ++ yv.cells.toList ++ vs.drop (off + n)).toArray).heap[x]? = c.w.heap[x]? := fun x _ hx => setRow_other _ _ _ _ hx
       refine ⟨ctxPut c l _ (c.β l) _, hrun, Stp.of_put hb.1 hL (ctxPut_rel hR hb.1 hp hoth (by simp) (.inl rfl) (setRow_heap _ _ _ _ _ _ hw) ?_ ?_) (ctxPut_kept hR hb.1 hp hoth)
        (ctxPut_fr hb.1 hp (calm_setRow _ _ _) hoth (by simp) (.inl rfl)) (.tup _ _ .nil)⟩
       ·intro bt' cs' he
        injection he with he0 he
        subst he0 he
        refine ⟨rfl, ?_, _, rfl, ?_⟩
        ·rw [lvleL_iff] at h1 ⊢
         intro x hx
         simp only [splice, List.mem_append] at hx
         rcases hx with (hx | hx) | hx
         ·exact h1 x (List.mem_of_mem_take hx)
         ·exact lvleL_iff.1 (lvle_cells hlv) x hx
         ·exact h1 x (List.mem_of_mem_drop hx)
        ·have := hrl.splice hcl off
         rw [hys] at this
         exact this
       ·intro ro g sz e xs he; cases he
     ·cases h
    ·cases h
   ·rename_i l g i off
    split at h
    ·rename_i u S1 hfz
     obtain ⟨hcu, ls, rfl, hu⟩ := freeze_rep hR hfz hy
     split at h
     ·rename_i ro g' sz e xs hS
      split at h
      ·rename_i hc
       obtain ⟨rfl, rfl, hi, rfl, rfl, hul⟩ := hc
       simp only [Option.some.injEq] at h
       subst h
       have hR1 := ctxShut_rel hR ls
       have ha1 := ha.kept (ctxShut_kept c ls)
       cases ha1 with
       | aptr _ _ _ _ p ho =>
        have hS1 : (ctxShut c ls).S l = some (.arr false g n e xs) := hS
        simp only [AptrOk, hS1] at ho
        obtain ⟨hD, _, rfl⟩ := ho.2 trivial
        obtain ⟨cur, fz, vs, hw, hfz0, _, hE, htk⟩ := hR1.arr l _ _ _ _ _ hD hS1
        obtain rfl := hfz0 rfl
        have hcl := hu.cells (closed_ones hcu)
        have hys : yv.cells.toList.length = n := hcl.length.trans hul
        have hvl := hE.length
        have hcs : vs.length ≤ cur.size := by rw [← htk, List.length_take]; simp; omega
        have hin : (i + 1) * n ≤ vs.length := by rw [hvl]; exact Nat.mul_le_mul_right _ hi
        have hin' : i * n + n ≤ cur.size := by rw [Nat.add_mul, Nat.one_mul] at hin; omega
        have hrun := storeCells_run (P := P) (w := c.w) (v := yv) hn (by simpa using hys) (show c.w.heap[c.β l]? = some (.cells cur e (0, 0)) from hw) (o := i * n) hin' (hcl.ones (closed_ones hcu))
        have hwn := setRow_heap c.w (c.β l) cur (cur.toList.take (i * n) ++ yv.cells.toList ++ cur.toList.drop (i * n + n)).toArray e (0, 0) hw
        have hp : PutOk (ctxShut c ls) l (.arr false g n e (xs.set i u)) (c.β l) (c.w.setRow (c.β l) (cur.toList.take (i * n) ++ yv.cells.toList ++ cur.toList.drop (i * n + n)).toArray) :=
         .inr ⟨g, n, e, xs, g, _, hS1, rfl, .inr ⟨rfl, by simp, rfl, fun cur' fz' hc' => by
          rw [hw] at hc'
          simp only [Option.some.injEq, Obj.cells.injEq] at hc'
          obtain ⟨rfl, _, rfl⟩ := hc'
          refine ⟨_, _, hwn, ?_⟩
          have := splice_length cur.toList (i * n) yv.cells.toList (by rw [hys]; simpa using hin')
          rw [hys] at this
          simpa using this⟩⟩
        have hoth : ∀ x, x < (ctxShut c ls).w.heap.size → x ≠ c.β l → (c.w.setRow (c.β l) (cur.toList.take (i * n) ++ yv.cells.toList ++ cur.toList.drop (i * n + n)).toArray).heap[x]? = c.w.heap[x]? := fun x _ hx => setRow_other _ _ _ _ hx
        refine ⟨ctxPut (ctxShut c ls) l _ (c.β l) _, hrun, Stp.after_shut (ls := ls) hR (Stp.of_put hD (fun l h => hL l h) (ctxPut_rel hR1 hD hp hoth (by simp [ctxShut]) (.inl rfl) hwn ?_ ?_) (ctxPut_kept hR1 hD hp hoth)
         (ctxPut_fr hD hp (calm_setRow _ _ _) hoth (by simp [ctxShut]) (.inl rfl)) (.tup _ _ .nil))⟩
        ·intro bt cs he; cases he
        ·intro ro g0 sz0 e0 xs0 he
         injection he with h1 h2 h3 h4 h5
         subst h1 h2 h3 h4 h5
         refine ⟨rfl, _, hE.set hi hu hul hcu, ?_⟩
         have hi1 : (i + 1) * n = i * n + n := by rw [Nat.add_mul, Nat.one_mul]
         have htl : (vs.take (i * n)).length = i * n := by simp; omega
         have hvt : vs.take (i * n) = cur.toList.take (i * n) := by rw [← htk, List.take_take, Nat.min_eq_left (by omega)]
         have hvd : vs.drop (i * n + n) = (cur.toList.drop (i * n + n)).take (vs.length - (i * n + n)) := by
          conv => lhs; rw [← htk]
          rw [List.drop_take]
         simp only [List.toList_toArray, hi1]
         have hlen : (vs.take (i * n) ++ yv.cells.toList ++ vs.drop (i * n + n)).length = i * n + n + (vs.length - (i * n + n)) := by simp [hys]; omega
         have hlA : (cur.toList.take (i * n) ++ yv.cells.toList).length = i * n + n := by simp [hys]; omega
         rw [hlen, hvt, hvd]
         rw [List.take_append, List.take_of_length_le (by omega), hlA, Nat.add_sub_cancel_left]
      ·cases h
     ·cases h
    ·cases h
   ·cases h
  ·cases h
 ·cases h

end Go.TM
