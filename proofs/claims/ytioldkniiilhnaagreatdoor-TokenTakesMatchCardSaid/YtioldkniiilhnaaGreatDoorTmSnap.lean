/- Rows and their parts; what is taken as it stands, and shared from then on. -/
import Derived.Test.YtioldkniiilhnaaGreatDoorTmCtx
set_option linter.all false
namespace Go.TM
open Go
set_option linter.unusedVariables false

theorem isSc_cells {v : Value} (h : isSc v = true) : v.cells = #[v] := by
 cases v <;> simp [isSc, Value.cells] at *

theorem isSc_one {v : Value} (h : isSc v = true) : v.oneCell' = true := by
 cases v <;> simp [isSc, Value.oneCell'] at *

mutual
theorem closed_kept {c c' : Ctx} (hs : ∀ b, c.Sh b → c'.Sh b ∧ c'.w.heap[b]? = c.w.heap[b]?) {t : T} {v : Value} (hc : closed t = true) : Rep c t v → Rep c' t v
 | .undef v => .undef v
 | .sc v hv => .sc v hv
 | .lst0 sz A cap => .lst0 sz A cap
 | .lst sz xs b o cap vs hsh hE hcell hcap => .lst sz xs b o cap vs (hs b hsh).1 (repE_kept hs hE) (fun i v hi => (cell_kept (hs b hsh).2).trans (hcell i v hi)) hcap
 | .own .. => by simp [closed] at hc
 | .ptr .. => by simp [closed] at hc
 | .lptr .. => by simp [closed] at hc
 | .aptr .. => by simp [closed] at hc
 | .clo .. => by simp [closed] at hc
 | .agg cs vs hl => .agg cs vs (closedL_kept hs (by simp [closed] at hc; exact hc.1) hl)
 | .tup .. => by simp [closed] at hc
theorem closedL_kept {c c' : Ctx} (hs : ∀ b, c.Sh b → c'.Sh b ∧ c'.w.heap[b]? = c.w.heap[b]?) {ts : List T} {vs : List Value} (hc : closedL ts = true) : RepL c ts vs → RepL c' ts vs
 | .nil => .nil
 | .cons x v xs vs hx hr => .cons x v xs vs (closed_kept hs (by simp [closedL] at hc; exact hc.1) hx) (closedL_kept hs (by simp [closedL] at hc; exact hc.2) hr)
theorem repE_kept {c c' : Ctx} (hs : ∀ b, c.Sh b → c'.Sh b ∧ c'.w.heap[b]? = c.w.heap[b]?) {sz : Nat} {ts : List T} {vs : List Value} : RepE c sz ts vs → RepE c' sz ts vs
 | .nil sz => .nil sz
 | .cons sz x v xs ws hx hl hcl hr => .cons sz x v xs ws (closed_kept hs hcl hx) hl hcl (repE_kept hs hr)
end

theorem RepL.length {c : Ctx} : ∀ {ts : List T} {vs : List Value}, RepL c ts vs → vs.length = ts.length
 | _, _, .nil => rfl
 | _, _, .cons x v xs vs _ hr => by simp [RepL.length hr]

theorem RepL.get {c : Ctx} : ∀ {ts : List T} {vs : List Value}, RepL c ts vs → ∀ {i : Nat} {t : T}, ts[i]? = some t → ∃ v, vs[i]? = some v ∧ Rep c t v
 | _, _, .nil, i, t, h => by simp at h
 | _, _, .cons x v xs vs hx hr, 0, t, h => by simp at h; subst h; exact ⟨v, by simp, hx⟩
 | _, _, .cons x v xs vs hx hr, i + 1, t, h => by simpa using hr.get (by simpa using h)

theorem RepL.append {c : Ctx} : ∀ {ts : List T} {vs : List Value}, RepL c ts vs → ∀ {us : List T} {ws : List Value}, RepL c us ws → RepL c (ts ++ us) (vs ++ ws)
 | _, _, .nil, _, _, h => by simpa using h
 | _, _, .cons x v xs vs hx hr, _, _, h => .cons x v _ _ hx (hr.append h)

theorem RepL.drop {c : Ctx} : ∀ (n : Nat) {ts : List T} {vs : List Value}, RepL c ts vs → RepL c (ts.drop n) (vs.drop n)
 | 0, _, _, h => by simpa using h
 | n + 1, _, _, .nil => by simpa using RepL.nil
 | n + 1, _, _, .cons x v xs vs hx hr => by simpa using RepL.drop n hr

theorem RepL.take {c : Ctx} : ∀ (n : Nat) {ts : List T} {vs : List Value}, RepL c ts vs → RepL c (ts.take n) (vs.take n)
 | 0, _, _, h => by simpa using RepL.nil
 | n + 1, _, _, .nil => by simpa using RepL.nil
 | n + 1, _, _, .cons x v xs vs hx hr => by simpa using RepL.cons x v _ _ hx (RepL.take n hr)

theorem one_cell {c : Ctx} {t : T} {v : Value} (h : Rep c t v) (ho : one t = true) : v.oneCell' = true ∧ v.cells = #[v] := by
 cases h <;> simp [one, Value.oneCell', Value.cells] at *
 case sc hv => exact ⟨isSc_one hv, isSc_cells hv⟩

theorem RepL.ones {c : Ctx} : ∀ {ts : List T} {vs : List Value}, RepL c ts vs → ts.all one = true → ∀ v ∈ vs, v.oneCell' = true
 | _, _, .nil, _, v, h => by cases h
 | _, _, .cons x v xs vs hx hr, ho, u, h => by
  simp only [List.all_cons, Bool.and_eq_true] at ho
  rcases List.mem_cons.1 h with rfl | h
  ·exact (one_cell hx ho.1).1
  ·exact hr.ones ho.2 u h

/-- A value's cells, one by one. -/
theorem Rep.cells {c : Ctx} {t : T} {v : Value} (h : Rep c t v) (ho : t.cells.all one = true) : RepL c t.cells v.cells.toList := by
 cases h with
 | agg cs vs hl => simpa [T.cells, Value.cells] using hl
 | undef v => simp [T.cells, one] at ho
 | tup cs vs hl => simp [T.cells, one] at ho
 | sc v hv => rw [isSc_cells hv]; exact .cons _ _ _ _ (.sc v hv) .nil
 | lst0 sz A cap => exact .cons _ _ _ _ (.lst0 sz A cap) .nil
 | lst sz xs b o cap vs a b' c' d => exact .cons _ _ _ _ (.lst sz xs b o cap vs a b' c' d) .nil
 | own l g off len A cap h => exact .cons _ _ _ _ (.own l g off len A cap h) .nil
 | ptr l off h => exact .cons _ _ _ _ (.ptr l off h) .nil
 | lptr sz xs i off b o vs a b' c' => exact .cons _ _ _ _ (.lptr sz xs i off b o vs a b' c') .nil
 | aptr l g i off p h => exact .cons _ _ _ _ (.aptr l g i off p h) .nil
 | clo f cs vs h => exact .cons _ _ _ _ (.clo f cs vs h) .nil

theorem closed_ones {t : T} (h : closed t = true) : t.cells.all one = true := by
 cases t <;> simp [closed, T.cells, one] at *
 case agg cs => exact fun x hx => h.2 x hx

theorem RepE.length {c : Ctx} : ∀ {sz : Nat} {xs : List T} {vs : List Value}, RepE c sz xs vs → vs.length = xs.length * sz
 | _, _, _, .nil sz => by simp
 | _, _, _, .cons sz x v xs ws hx hl hcl hr => by
  have := (hx.cells (closed_ones hcl)).length
  rw [List.length_append, hr.length, this, hl, List.length_cons, Nat.add_mul, Nat.one_mul, Nat.add_comm]

theorem RepE.ones {c : Ctx} : ∀ {sz : Nat} {xs : List T} {vs : List Value}, RepE c sz xs vs → ∀ v ∈ vs, v.oneCell' = true
 | _, _, _, .nil sz, v, h => by cases h
 | _, _, _, .cons sz x v xs ws hx hl hcl hr, u, h => by
  rcases List.mem_append.1 h with h | h
  ·exact (hx.cells (closed_ones hcl)).ones (closed_ones hcl) u h
  ·exact hr.ones u h

theorem RepE.append {c : Ctx} : ∀ {sz : Nat} {xs : List T} {vs : List Value}, RepE c sz xs vs → ∀ {ys : List T} {ws : List Value}, RepE c sz ys ws → RepE c sz (xs ++ ys) (vs ++ ws)
 | _, _, _, .nil sz, _, _, h => by simpa using h
 | _, _, _, .cons sz x v xs ws hx hl hcl hr, _, _, h => by
  rw [List.append_assoc]
  exact .cons sz x v _ _ hx hl hcl (hr.append h)

theorem RepE.drop {c : Ctx} : ∀ (n : Nat) {sz : Nat} {xs : List T} {vs : List Value}, RepE c sz xs vs → RepE c sz (xs.drop n) (vs.drop (n * sz))
 | 0, _, _, _, h => by simpa using h
 | n + 1, _, _, _, .nil sz => by simpa using RepE.nil sz
 | n + 1, _, _, _, .cons sz x v xs ws hx hl hcl hr => by
  have h1 : v.cells.toList.length = sz := (hx.cells (closed_ones hcl)).length.trans hl
  have h2 : (v.cells.toList ++ ws).drop ((n + 1) * sz) = ws.drop (n * sz) := by
   rw [Nat.add_mul, Nat.one_mul, Nat.add_comm, ← List.drop_drop, List.drop_left' h1]
  rw [h2]
  exact RepE.drop n hr

theorem RepE.take {c : Ctx} : ∀ (n : Nat) {sz : Nat} {xs : List T} {vs : List Value}, RepE c sz xs vs → RepE c sz (xs.take n) (vs.take (n * sz))
 | 0, _, _, _, h => by simpa using RepE.nil _
 | n + 1, _, _, _, .nil sz => by simpa using RepE.nil sz
 | n + 1, _, _, _, .cons sz x v xs ws hx hl hcl hr => by
  have h1 : v.cells.toList.length = sz := (hx.cells (closed_ones hcl)).length.trans hl
  have h2 : (v.cells.toList ++ ws).take ((n + 1) * sz) = v.cells.toList ++ ws.take (n * sz) := by
   rw [Nat.add_mul, Nat.one_mul, List.take_append, List.take_of_length_le (by omega), h1, Nat.add_sub_cancel]
  rw [h2]
  exact .cons sz x v _ _ hx hl hcl (RepE.take n hr)

theorem RepE.get {c : Ctx} : ∀ {sz : Nat} {xs : List T} {vs : List Value}, RepE c sz xs vs → ∀ {i : Nat} {x : T}, xs[i]? = some x →
  closed x = true ∧ x.cells.length = sz ∧ ∃ v, Rep c x v ∧ v.cells.toList = (vs.drop (i * sz)).take sz
 | _, _, _, .nil sz, i, x, h => by simp at h
 | _, _, _, .cons sz y v xs ws hx hl hcl hr, 0, x, h => by
  simp at h; subst h
  have h1 : v.cells.toList.length = sz := (hx.cells (closed_ones hcl)).length.trans hl
  exact ⟨hcl, hl, v, hx, by rw [Nat.zero_mul, List.drop_zero, List.take_left' h1]⟩
 | _, _, _, .cons sz y v xs ws hx hl hcl hr, i + 1, x, h => by
  have h1 : v.cells.toList.length = sz := (hx.cells (closed_ones hcl)).length.trans hl
  obtain ⟨a, b, u, hu, he⟩ := hr.get (by simpa using h)
  refine ⟨a, b, u, hu, ?_⟩
  rw [Nat.add_mul, Nat.one_mul, Nat.add_comm (i * sz), ← List.drop_drop, List.drop_left' h1]
  exact he

theorem RepE.set {c : Ctx} {sz : Nat} {xs : List T} {vs : List Value} (h : RepE c sz xs vs) {i : Nat} (hi : i < xs.length) {y : T} {u : Value} (hy : Rep c y u) (hl : y.cells.length = sz)
  (hcl : closed y = true) : RepE c sz (xs.set i y) (vs.take (i * sz) ++ u.cells.toList ++ vs.drop ((i + 1) * sz)) := by
 rw [List.set_eq_take_append_cons_drop, if_pos hi]
 have h1 := (h.take i).append (.cons sz y u _ _ hy hl hcl (h.drop (i + 1)))
 simpa using h1

/-! ### places that are shut -/
def ctxShut (c : Ctx) (ls : List Loc) : Ctx :=
 { c with S := setRo c.S ls, Sh := fun b => c.Sh b ∨ ∃ l, ls.contains l = true ∧ c.D l ∧ (∃ ro g sz e xs, c.S l = some (.arr ro g sz e xs)) ∧ c.β l = b }

theorem setRo_arr {S : Store} {ls : List Loc} {l : Loc} {ro : Bool} {g sz : Nat} {e : TypeId} {xs : List T} (h : S l = some (.arr ro g sz e xs)) : setRo S ls l = some (.arr (ro || ls.contains l) g sz e xs) := by
 simp [setRo, h]

theorem setRo_inv {S : Store} {ls : List Loc} {l : Loc} {o : Obj} (h : setRo S ls l = some o) :
  (∃ ro g sz e xs, S l = some (.arr ro g sz e xs) ∧ o = .arr (ro || ls.contains l) g sz e xs) ∨ (S l = some o ∧ ∀ ro g sz e xs, o ≠ .arr ro g sz e xs) := by
 unfold setRo at h
 cases hS : S l with
 | none => simp [hS] at h
 | some o' =>
  cases o' with
  | arr ro g sz e xs => simp only [hS, Option.some.injEq] at h; exact .inl ⟨ro, g, sz, e, xs, rfl, h.symm⟩
  | box bt cs => simp only [hS, Option.some.injEq] at h; subst h; exact .inr ⟨rfl, by simp⟩
  | gone => simp only [hS, Option.some.injEq] at h; subst h; exact .inr ⟨rfl, by simp⟩

theorem ctxShut_kept (c : Ctx) (ls : List Loc) : Kept c (ctxShut c ls) := by
 refine ⟨fun b hb => ⟨.inl hb, rfl⟩, fun l hl => ⟨⟨hl.1, ?_⟩, rfl⟩, fun l ro g sz e xs hS => .inr ⟨_, g, sz, e, xs, setRo_arr hS, Nat.le_refl _, fun _ => ⟨rfl, rfl, rfl, fun hD => ⟨hD, rfl, fun cur fz h => ⟨cur, fz, h, rfl⟩⟩⟩⟩, fun l hS => ?_⟩
 ·obtain ⟨bt, cs, h⟩ := hl.2
  exact ⟨bt, cs, by simp [ctxShut, setRo, h]⟩
 ·simp [ctxShut, setRo, hS]

theorem ctxShut_mut {c : Ctx} {ls : List Loc} {l : Loc} (h : Mut (ctxShut c ls) l) : Mut c l ∧ (ls.contains l = true → ∀ ro g sz e xs, c.S l ≠ some (.arr ro g sz e xs)) := by
 unfold Mut at h
 cases hS : (ctxShut c ls).S l with
 | none => simp [hS] at h
 | some o =>
  rcases setRo_inv hS with ⟨ro, g, sz, e, xs, h1, rfl⟩ | ⟨h1, h2⟩
  ·simp only [hS, Bool.or_eq_false_iff] at h
   exact ⟨by simp [Mut, h1, h.1], fun hc => by rw [h.2] at hc; cases hc⟩
  ·refine ⟨?_, fun _ ro g sz e xs h3 => ?_⟩
   ·cases o with
    | box bt cs => simp [Mut, h1]
    | arr ro g sz e xs => exact absurd rfl (h2 _ _ _ _ _)
    | gone => simp [hS] at h
   ·rw [h1] at h3; exact h2 _ _ _ _ _ (Option.some.inj h3)

theorem ctxShut_rel {c : Ctx} (hR : Rel c) (ls : List Loc) : Rel (ctxShut c ls) := by
 have hk := ctxShut_kept c ls
 refine ⟨fun l bt cs hD hS => ?_, fun l ro g sz e xs hD hS => ?_, fun l hD hm => ?_, fun l l' hD hD' hm hm' hβ => hR.inj l l' hD hD' (ctxShut_mut hm).1 (ctxShut_mut hm').1 hβ, fun b hb => ?_, fun l hD hS => ?_⟩
 ·rcases setRo_inv hS with ⟨ro, g, sz, e, xs, h1, h2⟩ | ⟨h1, h2⟩
  ·cases h2
  ·obtain ⟨a, vs, h3, h4⟩ := hR.box l bt cs hD h1
   exact ⟨a, vs, h3, h4.kept hk⟩
 ·rcases setRo_inv hS with ⟨ro', g', sz', e', xs', h1, h2⟩ | ⟨h1, h2⟩
  ·injection h2 with a1 a2 a3 a4 a5
   subst a1 a2 a3 a4 a5
   obtain ⟨cur, fz, vs, h3, h4, h5, h6, h7⟩ := hR.arr l ro' _ _ _ _ hD h1
   refine ⟨cur, fz, vs, h3, fun h => h4 (by simp at h; exact h.1), fun h => ?_, h6.kept hk, h7⟩
   simp only [Bool.or_eq_true] at h
   rcases h with h | h
   ·exact .inl (h5 h)
   ·exact .inr ⟨l, h, hD, ⟨_, _, _, _, _, h1⟩, rfl⟩
  ·exact absurd rfl (h2 _ _ _ _ _)
 ·rintro (h | ⟨l', hl', hD', ⟨ro, g, sz, e, xs, hS'⟩, hβ⟩)
  ·exact hR.nsh l hD (ctxShut_mut hm).1 h
  ·cases ro with
   | true =>
    obtain ⟨_, _, _, _, _, h5, _⟩ := hR.arr l' _ _ _ _ _ hD' hS'
    exact hR.nsh l hD (ctxShut_mut hm).1 (by rw [← show c.β l' = c.β l from hβ]; exact h5 rfl)
   | false =>
    have := hR.inj l' l hD' hD (by simp [Mut, hS']) (ctxShut_mut hm).1 hβ
    subst this
    exact (ctxShut_mut hm).2 hl' _ _ _ _ _ hS'
 ·rcases hb with hb | ⟨l', _, hD', ⟨ro, g, sz, e, xs, hS'⟩, rfl⟩
  ·exact hR.lt b hb
  ·exact hR.liveLt hD' hS' (by simp)
 ·apply hR.dom l hD
  simp only [ctxShut, setRo] at hS
  cases h : c.S l with
  | none => rfl
  | some o => cases o <;> simp [h] at hS

theorem ctxShut_fr {c : Ctx} (hR : Rel c) (ls : List Loc) : Fr c (ctxShut c ls) := by
 refine ⟨rfl, rfl, rfl, Nat.le_refl _, fun _ _ _ => rfl, fun l hD hm => .inl ⟨hD, (ctxShut_mut hm).1, rfl⟩, fun b hb => ?_⟩
 rcases hb with hb | ⟨l, _, hD, ⟨ro, g, sz, e, xs, hS⟩, rfl⟩
 ·exact .inl hb
 ·cases ro with
  | true => obtain ⟨_, _, _, _, _, h, _⟩ := hR.arr l true g sz e xs hD hS; exact .inl (h rfl)
  | false => exact .inr (.inr ⟨l, hD, by simp [Mut, hS], rfl⟩)

/-- The own lists of a value are readable places. -/
def SnapOk (c : Ctx) (ls : List Loc) : Prop := ∀ l ∈ ls, c.D l ∧ ∃ ro g sz e xs, c.S l = some (.arr ro g sz e xs)

mutual
theorem snap_rep {c c' : Ctx} (hR : Rel c) (hk : Kept c c') (hw : c'.w = c.w) : ∀ (t : T) {u : T} {ls : List Loc} {v : Value}, snap c.S t = some (u, ls) → Rep c t v →
  SnapOk c ls ∧ ((∀ l ∈ ls, c'.Sh (c.β l)) → Rep c' u v)
 | .own l g off len, u, ls, v, h, hv => by
  cases hv with
  | own _ _ _ _ A cap ho =>
   simp only [snap] at h
   cases hS : c.S l with
   | none => simp [hS] at h
   | some o =>
    cases o with
    | box bt cs => simp [hS] at h
    | gone => simp [hS] at h
    | arr ro g' sz e xs =>
     simp only [hS] at h
     split at h
     ·rename_i hg
      obtain ⟨rfl, hlen⟩ := hg
      simp only [Option.some.injEq, Prod.mk.injEq] at h
      obtain ⟨rfl, rfl⟩ := h
      simp only [OwnOk, hS] at ho
      obtain ⟨hD, h1, h2, h3⟩ := ho.2 trivial
      refine ⟨fun m hm => ?_, fun hsh => ?_⟩
      ·simp at hm; subst hm; exact ⟨hD, _, _, _, _, _, hS⟩
      ·by_cases h0 : len = 0
       ·subst h0
        simp only [List.take_zero]
        exact .lst0 sz A cap
       ·obtain ⟨cur, fz, rfl, hcur, hsz⟩ := h3.resolve_left (by omega)
        obtain ⟨cur', fz', vs, hc1, _, _, hE, htk⟩ := hR.arr l ro g sz e xs hD hS
        rw [hcur] at hc1
        simp only [Option.some.injEq, Obj.cells.injEq] at hc1
        obtain ⟨rfl, _, rfl⟩ := hc1
        have hL : ((xs.drop off).take len).length = len := by simp; omega
        have hE' := ((hE.drop off).take len).kept hk
        have := Rep.lst sz _ (c.β l) (off * sz) cap _ (hsh l (by simp)) hE' (fun i v hi => ?_) (by omega)
        ·rw [hL] at this; exact this
        ·rw [hw]
         simp only [World.cell?, hcur]
         rw [List.getElem?_take] at hi
         split at hi
         ·rw [List.getElem?_drop, ← htk, List.getElem?_take] at hi
          split at hi
          ·simpa using hi
          ·cases hi
         ·cases hi
     ·cases h
 | .agg cs, u, ls, v, h, hv => by
  cases hv with
  | agg _ vs hl =>
   simp only [snap] at h
   split at h
   ·rename_i ds ls' hd
    simp only [Option.some.injEq, Prod.mk.injEq] at h
    obtain ⟨rfl, rfl⟩ := h
    obtain ⟨h1, h2⟩ := snapL_rep hR hk hw cs hd hl
    exact ⟨h1, fun hsh => .agg _ _ (h2 hsh)⟩
   ·cases h
 | .undef, u, ls, v, h, hv => by simp only [snap, Option.some.injEq, Prod.mk.injEq] at h; obtain ⟨rfl, rfl⟩ := h; exact ⟨(by intro l h; cases h), fun _ => hv.kept hk⟩
 | .sc x, u, ls, v, h, hv => by simp only [snap, Option.some.injEq, Prod.mk.injEq] at h; obtain ⟨rfl, rfl⟩ := h; exact ⟨(by intro l h; cases h), fun _ => hv.kept hk⟩
 | .lst .., u, ls, v, h, hv => by simp only [snap, Option.some.injEq, Prod.mk.injEq] at h; obtain ⟨rfl, rfl⟩ := h; exact ⟨(by intro l h; cases h), fun _ => hv.kept hk⟩
 | .ptr .., u, ls, v, h, hv => by simp only [snap, Option.some.injEq, Prod.mk.injEq] at h; obtain ⟨rfl, rfl⟩ := h; exact ⟨(by intro l h; cases h), fun _ => hv.kept hk⟩
 | .lptr .., u, ls, v, h, hv => by simp only [snap, Option.some.injEq, Prod.mk.injEq] at h; obtain ⟨rfl, rfl⟩ := h; exact ⟨(by intro l h; cases h), fun _ => hv.kept hk⟩
 | .aptr .., u, ls, v, h, hv => by simp only [snap, Option.some.injEq, Prod.mk.injEq] at h; obtain ⟨rfl, rfl⟩ := h; exact ⟨(by intro l h; cases h), fun _ => hv.kept hk⟩
 | .clo .., u, ls, v, h, hv => by simp only [snap, Option.some.injEq, Prod.mk.injEq] at h; obtain ⟨rfl, rfl⟩ := h; exact ⟨(by intro l h; cases h), fun _ => hv.kept hk⟩
 | .tup .., u, ls, v, h, hv => by simp only [snap, Option.some.injEq, Prod.mk.injEq] at h; obtain ⟨rfl, rfl⟩ := h; exact ⟨(by intro l h; cases h), fun _ => hv.kept hk⟩
theorem snapL_rep {c c' : Ctx} (hR : Rel c) (hk : Kept c c') (hw : c'.w = c.w) : ∀ (ts : List T) {us : List T} {ls : List Loc} {vs : List Value}, snapL c.S ts = some (us, ls) → RepL c ts vs →
  SnapOk c ls ∧ ((∀ l ∈ ls, c'.Sh (c.β l)) → RepL c' us vs)
 | [], us, ls, vs, h, hv => by
  simp only [snapL, Option.some.injEq, Prod.mk.injEq] at h
  obtain ⟨rfl, rfl⟩ := h
  cases hv
  exact ⟨(by intro l h; cases h), fun _ => .nil⟩
 | x :: xs, us, ls, vs, h, hv => by
  simp only [snapL] at h
  split at h
  ·rename_i y l ys ls' h1 h2
   simp only [Option.some.injEq, Prod.mk.injEq] at h
   obtain ⟨rfl, rfl⟩ := h
   cases hv with
   | cons _ v _ vs hx hr =>
    obtain ⟨a1, a2⟩ := snap_rep hR hk hw x h1 hx
    obtain ⟨b1, b2⟩ := snapL_rep hR hk hw xs h2 hr
    refine ⟨fun m hm => ?_, fun hsh => .cons _ _ _ _ (a2 fun m hm => hsh m (List.mem_append_left _ hm)) (b2 fun m hm => hsh m (List.mem_append_right _ hm))⟩
    rcases List.mem_append.1 hm with hm | hm
    ·exact a1 m hm
    ·exact b1 m hm
  ·cases h
end

theorem ctxShut_sh {c : Ctx} {ls : List Loc} (h : SnapOk c ls) : ∀ l ∈ ls, (ctxShut c ls).Sh (c.β l) :=
 fun l hl => .inr ⟨l, by simpa using hl, (h l hl).1, (h l hl).2, rfl⟩

theorem freeze_rep {c : Ctx} (hR : Rel c) {t u : T} {S' : Store} {v : Value} (h : freeze c.S t = some (u, S')) (hv : Rep c t v) :
  closed u = true ∧ ∃ ls, S' = setRo c.S ls ∧ Rep (ctxShut c ls) u v := by
 unfold freeze at h
 split at h
 ·rename_i u' ls hs
  split at h
  ·rename_i hc
   simp only [Option.some.injEq, Prod.mk.injEq] at h
   obtain ⟨rfl, rfl⟩ := h
   obtain ⟨h1, h2⟩ := snap_rep hR (ctxShut_kept c ls) rfl t hs hv
   exact ⟨hc, ls, rfl, h2 (ctxShut_sh h1)⟩
  ·cases h
 ·cases h

end Go.TM
