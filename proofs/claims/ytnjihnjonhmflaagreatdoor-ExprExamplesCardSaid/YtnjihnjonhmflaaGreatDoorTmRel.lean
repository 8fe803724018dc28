/- What a tree tells of a value in a world; and that it goes on telling it while nothing that it leans on has turned. -/
import Derived.Test.YtnjihnjonhmflaaGreatDoorTmDef
import Derived.Laws.OwnMore
import Derived.Below
import Derived.OwnWalk
set_option linter.all false
namespace Go.TM
open Go
set_option linter.unusedVariables false

structure Ctx where
  S : Store
  D : Loc → Prop
  β : Loc → Nat
  Sh : Nat → Prop
  w : World

def OwnOk (c : Ctx) (l : Loc) (g off len : Nat) (A : Option Addr) (cap : Nat) : Prop :=
  match c.S l with
  | some (.arr _ g' sz e xs) => g ≤ g' ∧ (g = g' → c.D l ∧ off + len ≤ xs.length ∧ len ≤ cap ∧
      (cap = 0 ∨ ∃ cur fz, A = some ⟨c.β l, off * sz, none⟩ ∧ c.w.heap[c.β l]? = some (.cells cur e fz) ∧ (off + cap) * sz ≤ cur.size))
  | some .gone => True
  | _ => False

def AptrOk (c : Ctx) (l : Loc) (g i off : Nat) (p : Addr) : Prop :=
  match c.S l with
  | some (.arr _ g' sz _ xs) => g ≤ g' ∧ (g = g' → c.D l ∧ i < xs.length ∧ p = ⟨c.β l, i * sz + off, none⟩)
  | some .gone => True
  | _ => False

def BoxOk (c : Ctx) (l : Loc) : Prop := c.D l ∧ ∃ bt cs, c.S l = some (.box bt cs)

mutual
inductive Rep (c : Ctx) : T → Value → Prop
  | undef (v : Value) : Rep c .undef v
  | sc (v : Value) (h : isSc v = true) : Rep c (.sc v) v
  | lst0 (sz : Nat) (A : Option Addr) (cap : Nat) : Rep c (.lst sz []) (.slice A 0 cap)
  | lst (sz : Nat) (xs : List T) (b o cap : Nat) (vs : List Value) (hs : c.Sh b) (hE : RepE c sz xs vs) (hc : ∀ i v, vs[i]? = some v → c.w.cell? ⟨b, o + i, none⟩ = some v)
      (hcap : xs.length ≤ cap) : Rep c (.lst sz xs) (.slice (some ⟨b, o, none⟩) xs.length cap)
  | own (l : Loc) (g off len : Nat) (A : Option Addr) (cap : Nat) (h : OwnOk c l g off len A cap) : Rep c (.own l g off len) (.slice A len cap)
  | ptr (l : Loc) (off : Nat) (h : BoxOk c l) : Rep c (.ptr l off) (.pointer (some ⟨c.β l, off, none⟩))
  | lptr (sz : Nat) (xs : List T) (i off b o : Nat) (vs : List Value) (hs : c.Sh b) (hE : RepE c sz xs vs) (hc : ∀ i v, vs[i]? = some v → c.w.cell? ⟨b, o + i, none⟩ = some v) :
      Rep c (.lptr sz xs i off) (.pointer (some ⟨b, o + i * sz + off, none⟩))
  | aptr (l : Loc) (g i off : Nat) (p : Addr) (h : AptrOk c l g i off p) : Rep c (.aptr l g i off) (.pointer (some p))
  | clo (f : FuncId) (cs : List T) (vs : List Value) (h : RepL c cs vs) : Rep c (.clo f cs) (.func (.func f) #[] vs.toArray)
  | agg (cs : List T) (vs : List Value) (h : RepL c cs vs) : Rep c (.agg cs) (.agg vs.toArray)
  | tup (cs : List T) (vs : List Value) (h : RepL c cs vs) : Rep c (.tup cs) (.tuple vs.toArray)
inductive RepL (c : Ctx) : List T → List Value → Prop
  | nil : RepL c [] []
  | cons (x : T) (v : Value) (xs : List T) (vs : List Value) (h : Rep c x v) (hr : RepL c xs vs) : RepL c (x :: xs) (v :: vs)
inductive RepE (c : Ctx) : Nat → List T → List Value → Prop
  | nil (sz : Nat) : RepE c sz [] []
  | cons (sz : Nat) (x : T) (v : Value) (xs : List T) (ws : List Value) (h : Rep c x v) (hl : x.cells.length = sz) (hcl : closed x = true) (hr : RepE c sz xs ws) :
      RepE c sz (x :: xs) (v.cells.toList ++ ws)
end

/-- What holds on: shared blocks as they were, variables where they were, rows where they were or marked anew. -/
structure Kept (c c' : Ctx) : Prop where
  sh : ∀ b, c.Sh b → c'.Sh b ∧ c'.w.heap[b]? = c.w.heap[b]?
  box : ∀ l, BoxOk c l → BoxOk c' l ∧ c'.β l = c.β l
  arr : ∀ l ro g sz e xs, c.S l = some (.arr ro g sz e xs) → c'.S l = some .gone ∨ ∃ ro' g' sz' e' xs', c'.S l = some (.arr ro' g' sz' e' xs') ∧ g ≤ g' ∧
    (g = g' → sz' = sz ∧ e' = e ∧ xs'.length = xs.length ∧ (c.D l → c'.D l ∧ c'.β l = c.β l ∧
      ∀ cur fz, c.w.heap[c.β l]? = some (.cells cur e fz) → ∃ cur' fz', c'.w.heap[c.β l]? = some (.cells cur' e fz') ∧ cur'.size = cur.size))
  gone : ∀ l, c.S l = some .gone → c'.S l = some .gone

theorem OwnOk.kept {c c' : Ctx} (h : Kept c c') {l : Loc} {g off len : Nat} {A : Option Addr} {cap : Nat} (ho : OwnOk c l g off len A cap) : OwnOk c' l g off len A cap := by
  unfold OwnOk at ho ⊢
  cases hS : c.S l with
  | none => simp [hS] at ho
  | some o =>
    cases o with
    | box bt cs => simp [hS] at ho
    | gone => rw [h.gone l hS]; trivial
    | arr ro g0 sz e xs =>
      simp only [hS] at ho
      rcases h.arr l ro g0 sz e xs hS with hg | ⟨ro', g', sz', e', xs', hS', hle, hk⟩
      · rw [hg]; trivial
      · rw [hS']
        refine ⟨Nat.le_trans ho.1 hle, fun hgg => ?_⟩
        have hg0 : g = g0 := by omega
        have hg1 : g0 = g' := by omega
        obtain ⟨hD, hlen, hcap, hA⟩ := ho.2 hg0
        obtain ⟨rfl, rfl, hxl, hk⟩ := hk hg1
        obtain ⟨hD', hβ, hcells⟩ := hk hD
        refine ⟨hD', by omega, hcap, ?_⟩
        rcases hA with h0 | ⟨cur, fz, hA, hw, hsz⟩
        · exact .inl h0
        · obtain ⟨cur', fz', hw', hs'⟩ := hcells cur fz hw
          exact .inr ⟨cur', fz', by rw [hβ]; exact hA, by rw [hβ]; exact hw', by omega⟩

theorem AptrOk.kept {c c' : Ctx} (h : Kept c c') {l : Loc} {g i off : Nat} {p : Addr} (ho : AptrOk c l g i off p) : AptrOk c' l g i off p := by
  unfold AptrOk at ho ⊢
  cases hS : c.S l with
  | none => simp [hS] at ho
  | some o =>
    cases o with
    | box bt cs => simp [hS] at ho
    | gone => rw [h.gone l hS]; trivial
    | arr ro g0 sz e xs =>
      simp only [hS] at ho
      rcases h.arr l ro g0 sz e xs hS with hg | ⟨ro', g', sz', e', xs', hS', hle, hk⟩
      · rw [hg]; trivial
      · rw [hS']
        refine ⟨Nat.le_trans ho.1 hle, fun hgg => ?_⟩
        have hg0 : g = g0 := by omega
        have hg1 : g0 = g' := by omega
        obtain ⟨hD, hi, hp⟩ := ho.2 hg0
        obtain ⟨rfl, rfl, hxl, hk⟩ := hk hg1
        obtain ⟨hD', hβ, _⟩ := hk hD
        exact ⟨hD', by omega, by rw [hβ]; exact hp⟩

theorem cell_kept {w w' : World} {b i : Nat} (h : w'.heap[b]? = w.heap[b]?) : w'.cell? ⟨b, i, none⟩ = w.cell? ⟨b, i, none⟩ := by simp [World.cell?, h]

mutual
theorem Rep.kept {c c' : Ctx} (h : Kept c c') {t : T} {v : Value} : Rep c t v → Rep c' t v
  | .undef v => .undef v
  | .sc v hv => .sc v hv
  | .lst0 sz A cap => .lst0 sz A cap
  | .lst sz xs b o cap vs hs hE hc hcap => .lst sz xs b o cap vs (h.sh b hs).1 (RepE.kept h hE) (fun i v hi => (cell_kept (h.sh b hs).2).trans (hc i v hi)) hcap
  | .own l g off len A cap ho => .own l g off len A cap (ho.kept h)
  | .ptr l off hb => by
    have hp := Rep.ptr (c := c') l off (h.box l hb).1
    rw [(h.box l hb).2] at hp
    exact hp
  | .lptr sz xs i off b o vs hs hE hc => .lptr sz xs i off b o vs (h.sh b hs).1 (RepE.kept h hE) (fun i v hi => (cell_kept (h.sh b hs).2).trans (hc i v hi))
  | .aptr l g i off p ho => .aptr l g i off p (ho.kept h)
  | .clo f cs vs hl => .clo f cs vs (RepL.kept h hl)
  | .agg cs vs hl => .agg cs vs (RepL.kept h hl)
  | .tup cs vs hl => .tup cs vs (RepL.kept h hl)
theorem RepL.kept {c c' : Ctx} (h : Kept c c') {ts : List T} {vs : List Value} : RepL c ts vs → RepL c' ts vs
  | .nil => .nil
  | .cons x v xs vs hx hr => .cons x v xs vs (Rep.kept h hx) (RepL.kept h hr)
theorem RepE.kept {c c' : Ctx} (h : Kept c c') {sz : Nat} {ts : List T} {vs : List Value} : RepE c sz ts vs → RepE c' sz ts vs
  | .nil sz => .nil sz
  | .cons sz x v xs ws hx hl hcl hr => .cons sz x v xs ws (Rep.kept h hx) hl hcl (RepE.kept h hr)
end

theorem Kept.refl (c : Ctx) : Kept c c := ⟨fun _ h => ⟨h, rfl⟩, fun _ h => ⟨h, rfl⟩,
  fun l ro g sz e xs h => .inr ⟨ro, g, sz, e, xs, h, Nat.le_refl _, fun _ => ⟨rfl, rfl, rfl, fun hD => ⟨hD, rfl, fun cur fz hw => ⟨cur, fz, hw, rfl⟩⟩⟩⟩, fun _ h => h⟩

theorem Kept.trans {a b c : Ctx} (h : Kept a b) (k : Kept b c) : Kept a c := by
  refine ⟨fun x hx => ⟨(k.sh x (h.sh x hx).1).1, (k.sh x (h.sh x hx).1).2.trans (h.sh x hx).2⟩,
    fun l hl => ⟨(k.box l (h.box l hl).1).1, (k.box l (h.box l hl).1).2.trans (h.box l hl).2⟩, fun l ro g sz e xs hS => ?_, fun l hl => k.gone l (h.gone l hl)⟩
  rcases h.arr l ro g sz e xs hS with hg | ⟨ro1, g1, sz1, e1, xs1, hS1, hle1, hk1⟩
  · exact .inl (k.gone l hg)
  · rcases k.arr l ro1 g1 sz1 e1 xs1 hS1 with hg | ⟨ro2, g2, sz2, e2, xs2, hS2, hle2, hk2⟩
    · exact .inl hg
    · refine .inr ⟨ro2, g2, sz2, e2, xs2, hS2, Nat.le_trans hle1 hle2, fun hgg => ?_⟩
      obtain ⟨rfl, rfl, hx1, hm1⟩ := hk1 (by omega)
      obtain ⟨rfl, rfl, hx2, hm2⟩ := hk2 (by omega)
      refine ⟨rfl, rfl, hx2.trans hx1, fun hD => ?_⟩
      obtain ⟨hD1, hβ1, hc1⟩ := hm1 hD
      obtain ⟨hD2, hβ2, hc2⟩ := hm2 hD1
      refine ⟨hD2, hβ2.trans hβ1, fun cur fz hw => ?_⟩
      obtain ⟨cur1, fz1, hw1, hs1⟩ := hc1 cur fz hw
      obtain ⟨cur2, fz2, hw2, hs2⟩ := hc2 cur1 fz1 (by rw [hβ1]; exact hw1)
      exact ⟨cur2, fz2, by rw [hβ1] at hw2; exact hw2, hs2.trans hs1⟩

/-- May this place be written? -/
def Mut (c : Ctx) (l : Loc) : Prop := match c.S l with
  | some (.box _ _) => True
  | some (.arr ro _ _ _ _) => ro = false
  | _ => False

/-- The world bears the store: each place its block; blocks that may be written are each one place's, and shared by none. -/
structure Rel (c : Ctx) : Prop where
  box : ∀ l bt cs, c.D l → c.S l = some (.box bt cs) → lvleL l.1 cs = true ∧ ∃ vs, c.w.heap[c.β l]? = some (.cells vs.toArray bt (0, 0)) ∧ RepL c cs vs
  arr : ∀ l ro g sz e xs, c.D l → c.S l = some (.arr ro g sz e xs) → ∃ cur fz vs, c.w.heap[c.β l]? = some (.cells cur e fz) ∧ (ro = false → fz = (0, 0)) ∧ (ro = true → c.Sh (c.β l)) ∧
    RepE c sz xs vs ∧ cur.toList.take vs.length = vs
  nsh : ∀ l, c.D l → Mut c l → ¬ c.Sh (c.β l)
  inj : ∀ l l', c.D l → c.D l' → Mut c l → Mut c l' → c.β l = c.β l' → l = l'
  lt : ∀ b, c.Sh b → b < c.w.heap.size
  dom : ∀ l, c.D l → c.S l ≠ none

/-- How the world has turned: what was no writable place's block is as it was; writable places stand in their old blocks or in new ones; shared are old shared blocks, new ones, or writable places' ones. -/
structure Fr (c c' : Ctx) : Prop where
  os : c'.w.os = c.w.os
  tape : c'.w.tape = c.w.tape
  output : c'.w.output = c.w.output
  size : c.w.heap.size ≤ c'.w.heap.size
  blk : ∀ b, b < c.w.heap.size → (∀ l, c.D l → Mut c l → c.β l ≠ b) → c'.w.heap[b]? = c.w.heap[b]?
  own : ∀ l, c'.D l → Mut c' l → (c.D l ∧ Mut c l ∧ c'.β l = c.β l) ∨ c.w.heap.size ≤ c'.β l
  shn : ∀ b, c'.Sh b → c.Sh b ∨ c.w.heap.size ≤ b ∨ ∃ l, c.D l ∧ Mut c l ∧ c.β l = b

theorem Fr.refl (c : Ctx) : Fr c c := ⟨rfl, rfl, rfl, Nat.le_refl _, fun _ _ _ => rfl, fun _ hD hm => .inl ⟨hD, hm, rfl⟩, fun _ h => .inl h⟩

theorem Fr.trans {a b c : Ctx} (h : Fr a b) (k : Fr b c) : Fr a c := by
  refine ⟨k.os.trans h.os, k.tape.trans h.tape, k.output.trans h.output, Nat.le_trans h.size k.size, fun x hx hn => ?_, fun l hD hm => ?_, fun x hx => ?_⟩
  · refine (k.blk x (Nat.lt_of_lt_of_le hx h.size) (fun l hD hm => ?_)).trans (h.blk x hx hn)
    rcases h.own l hD hm with ⟨hD0, hm0, hβ⟩ | hge
    · rw [hβ]; exact hn l hD0 hm0
    · omega
  · rcases k.own l hD hm with ⟨hD1, hm1, hβ1⟩ | hge
    · rcases h.own l hD1 hm1 with ⟨hD0, hm0, hβ0⟩ | hge
      · exact .inl ⟨hD0, hm0, hβ1.trans hβ0⟩
      · exact .inr (by rw [hβ1]; exact hge)
    · exact .inr (Nat.le_trans h.size hge)
  · rcases k.shn x hx with h1 | h1 | ⟨l, hD, hm, rfl⟩
    · exact h.shn x h1
    · exact .inr (.inl (Nat.le_trans h.size h1))
    · rcases h.own l hD hm with ⟨hD0, hm0, hβ⟩ | hge
      · exact .inr (.inr ⟨l, hD0, hm0, hβ.symm⟩)
      · exact .inr (.inl hge)

end Go.TM

namespace Go.TM
open Go
set_option linter.unusedVariables false

/-- The world but for its heap and its count of draws. -/
structure Calm (w w' : World) : Prop where
  os : w'.os = w.os
  tape : w'.tape = w.tape
  output : w'.output = w.output

theorem lt_of_get {w : World} {b : Nat} {o : Go.Obj} (h : w.heap[b]? = some o) : b < w.heap.size := by
  rcases Nat.lt_or_ge b w.heap.size with hl | hl
  · exact hl
  · rw [Array.getElem?_eq_none hl] at h; cases h

/-- A writable place's block lies in the heap. -/
theorem Rel.mutLt {c : Ctx} (h : Rel c) {l : Loc} (hD : c.D l) (hm : Mut c l) : c.β l < c.w.heap.size := by
  unfold Mut at hm
  cases hS : c.S l with
  | none => simp [hS] at hm
  | some o =>
    cases o with
    | gone => simp [hS] at hm
    | box bt cs => obtain ⟨_, vs, hw, _⟩ := h.box l bt cs hD hS; exact lt_of_get hw
    | arr ro g sz e xs => obtain ⟨cur, fz, vs, hw, _⟩ := h.arr l ro g sz e xs hD hS; exact lt_of_get hw

theorem Rel.liveLt {c : Ctx} (h : Rel c) {l : Loc} (hD : c.D l) {o : Obj} (hS : c.S l = some o) (ho : o ≠ .gone) : c.β l < c.w.heap.size := by
  cases o with
  | gone => exact absurd rfl ho
  | box bt cs => obtain ⟨_, vs, hw, _⟩ := h.box l bt cs hD hS; exact lt_of_get hw
  | arr ro g sz e xs => obtain ⟨cur, fz, vs, hw, _⟩ := h.arr l ro g sz e xs hD hS; exact lt_of_get hw

def ctxNew (c : Ctx) (l : Loc) (o : Obj) (w' : World) : Ctx :=
  { S := upd c.S l o, D := fun m => c.D m ∨ m = l, β := fun m => if m = l then c.w.heap.size else c.β m, Sh := c.Sh, w := w' }

theorem upd_same (S : Store) (l : Loc) (o : Obj) : upd S l o l = some o := by simp [upd]
theorem upd_ne (S : Store) {l m : Loc} (o : Obj) (h : m ≠ l) : upd S l o m = S m := by simp [upd, h]

theorem ctxNew_kept {c : Ctx} {l : Loc} {o : Obj} {w' : World} (hl : c.S l = none) (hw : ∀ b, b < c.w.heap.size → w'.heap[b]? = c.w.heap[b]?) (hR : Rel c) : Kept c (ctxNew c l o w') := by
  have ne : ∀ m o', c.S m = some o' → m ≠ l := fun m o' hm e => by rw [e, hl] at hm; cases hm
  refine ⟨fun b hb => ⟨hb, hw b (hR.lt b hb)⟩, fun m hm => ?_, fun m ro g sz e xs hS => .inr ?_, fun m hS => ?_⟩
  · obtain ⟨hD, bt, cs, hS⟩ := hm
    exact ⟨⟨.inl hD, bt, cs, by simp only [ctxNew]; rw [upd_ne _ _ (ne m _ hS)]; exact hS⟩, by simp [ctxNew, ne m _ hS]⟩
  · refine ⟨ro, g, sz, e, xs, by simp only [ctxNew]; rw [upd_ne _ _ (ne m _ hS)]; exact hS, Nat.le_refl _, fun _ => ⟨rfl, rfl, rfl, fun hD => ⟨.inl hD, by simp [ctxNew, ne m _ hS], fun cur fz hc => ⟨cur, fz, ?_, rfl⟩⟩⟩⟩
    simp only [ctxNew]
    rw [hw _ (lt_of_get hc)]; exact hc
  · simp only [ctxNew]; rw [upd_ne _ _ (ne m _ hS)]; exact hS

theorem ctxNew_rel {c : Ctx} {l : Loc} {o : Obj} {w' : World} (hR : Rel c) (hl : c.S l = none) (hw : ∀ b, b < c.w.heap.size → w'.heap[b]? = c.w.heap[b]?)
    (hsz : c.w.heap.size ≤ w'.heap.size) {cur : Array Value} {ty : TypeId} (hn : w'.heap[c.w.heap.size]? = some (.cells cur ty (0, 0)))
    (hb : ∀ bt cs, o = .box bt cs → bt = ty ∧ lvleL l.1 cs = true ∧ ∃ vs, cur = vs.toArray ∧ RepL c cs vs)
    (ha : ∀ ro g sz e xs, o = .arr ro g sz e xs → ro = false ∧ ty = e ∧ ∃ vs, RepE c sz xs vs ∧ cur.toList.take vs.length = vs) : Rel (ctxNew c l o w') := by
  have hk := ctxNew_kept (o := o) hl hw hR
  have hDl : ¬ c.D l := fun h => hR.dom l h hl
  have ne : ∀ m, c.D m → m ≠ l := fun m hm e => hDl (e ▸ hm)
  have hmut : ∀ m, c.D m → Mut (ctxNew c l o w') m → Mut c m := fun m hm h => by simpa [Mut, ctxNew, upd_ne _ _ (ne m hm)] using h
  refine ⟨fun m bt cs hD hS => ?_, fun m ro g sz e xs hD hS => ?_, fun m hD hm => ?_, fun m m' hD hD' hm hm' hβ => ?_, fun b hb' => Nat.lt_of_lt_of_le (hR.lt b hb') hsz, fun m hD hS => ?_⟩
  · by_cases e : m = l
    · subst e
      rw [show (ctxNew c m o w').S m = some o from upd_same _ _ _] at hS
      obtain ⟨h0, h1, vs, h3, h4⟩ := hb bt cs (Option.some.inj hS)
      subst h0
      exact ⟨h1, vs, by simp only [ctxNew, if_true]; rw [hn, h3], h4.kept hk⟩
    · have hD : c.D m := hD.resolve_right e
      rw [show (ctxNew c l o w').S m = c.S m from upd_ne _ _ e] at hS
      obtain ⟨h1, vs, h3, h4⟩ := hR.box m bt cs hD hS
      exact ⟨h1, vs, by simp only [ctxNew, e, if_false]; rw [hw _ (lt_of_get h3)]; exact h3, h4.kept hk⟩
  · by_cases e' : m = l
    · subst e'
      rw [show (ctxNew c m o w').S m = some o from upd_same _ _ _] at hS
      obtain ⟨rfl, rfl, vs, h3, h4⟩ := ha ro g sz e xs (Option.some.inj hS)
      exact ⟨cur, (0, 0), vs, by simp only [ctxNew, if_true]; exact hn, fun _ => rfl, fun h => by simp at h, h3.kept hk, h4⟩
    · have hD : c.D m := hD.resolve_right e'
      rw [show (ctxNew c l o w').S m = c.S m from upd_ne _ _ e'] at hS
      obtain ⟨cur', fz, vs, h3, h4, h5, h6, h7⟩ := hR.arr m ro g sz e xs hD hS
      exact ⟨cur', fz, vs, by simp only [ctxNew, e', if_false]; rw [hw _ (lt_of_get h3)]; exact h3, h4, fun h => by simp only [ctxNew, e', if_false]; exact h5 h, h6.kept hk, h7⟩
  · by_cases e : m = l
    · subst e
      intro h
      have := hR.lt _ h
      simp [ctxNew] at this
    · have hD : c.D m := hD.resolve_right e
      have := hR.nsh m hD (hmut m hD hm)
      simpa [ctxNew, e] using this
  · by_cases e : m = l
    · by_cases e' : m' = l
      · rw [e, e']
      · have hD' : c.D m' := hD'.resolve_right e'
        have := hR.mutLt hD' (hmut m' hD' hm')
        simp only [ctxNew, e, e', if_true, if_false] at hβ
        omega
    · have hD : c.D m := hD.resolve_right e
      by_cases e' : m' = l
      · have := hR.mutLt hD (hmut m hD hm)
        simp only [ctxNew, e, e', if_true, if_false] at hβ
        omega
      · have hD' : c.D m' := hD'.resolve_right e'
        simp only [ctxNew, e, e', if_false] at hβ
        exact hR.inj m m' hD hD' (hmut m hD hm) (hmut m' hD' hm') hβ
  · by_cases e : m = l
    · subst e
      rw [show (ctxNew c m o w').S m = some o from upd_same _ _ _] at hS
      cases hS
    · rw [show (ctxNew c l o w').S m = c.S m from upd_ne _ _ e] at hS
      exact hR.dom m (hD.resolve_right e) hS

theorem ctxNew_fr {c : Ctx} {l : Loc} {o : Obj} {w' : World} (hR : Rel c) (hl : c.S l = none) (hc : Calm c.w w') (hw : ∀ b, b < c.w.heap.size → w'.heap[b]? = c.w.heap[b]?)
    (hsz : c.w.heap.size ≤ w'.heap.size) : Fr c (ctxNew c l o w') := by
  refine ⟨hc.os, hc.tape, hc.output, hsz, fun b hb _ => hw b hb, fun m hD hm => ?_, fun b hb => .inl hb⟩
  by_cases e : m = l
  · right; simp [ctxNew, e]
  · left
    have hD : c.D m := hD.resolve_right e
    exact ⟨hD, by simpa [Mut, ctxNew, upd_ne _ _ e] using hm, by simp [ctxNew, e]⟩

/-! ### a writable place is written; its block may be another one -/
def ctxPut (c : Ctx) (l : Loc) (o : Obj) (b : Nat) (w' : World) : Ctx :=
  { S := upd c.S l o, D := c.D, β := fun m => if m = l then b else c.β m, Sh := c.Sh, w := w' }

/-- Of what it was and what it is: a variable stays where it is; a row is marked anew, or stays, of its size. -/
def PutOk (c : Ctx) (l : Loc) (o : Obj) (b : Nat) (w' : World) : Prop :=
  (∃ bt cs cs', c.S l = some (.box bt cs) ∧ o = .box bt cs' ∧ b = c.β l) ∨
  ∃ g sz e xs g' xs', c.S l = some (.arr false g sz e xs) ∧ o = .arr false g' sz e xs' ∧ (g < g' ∨ g = g' ∧ xs'.length = xs.length ∧ b = c.β l ∧
    ∀ cur fz, c.w.heap[c.β l]? = some (.cells cur e fz) → ∃ cur' fz', w'.heap[c.β l]? = some (.cells cur' e fz') ∧ cur'.size = cur.size)

theorem PutOk.mut {c : Ctx} {l : Loc} {o : Obj} {b : Nat} {w' : World} (h : PutOk c l o b w') : Mut c l := by
  rcases h with ⟨bt, cs, cs', h, _, _⟩ | ⟨g, sz, e, xs, g', xs', h, _, _⟩ <;> simp [Mut, h]

theorem ctxPut_kept {c : Ctx} {l : Loc} {o : Obj} {b : Nat} {w' : World} (hR : Rel c) (hD : c.D l) (hp : PutOk c l o b w')
    (hw : ∀ x, x < c.w.heap.size → x ≠ c.β l → w'.heap[x]? = c.w.heap[x]?) : Kept c (ctxPut c l o b w') := by
  have hm := hp.mut
  refine ⟨fun x hx => ⟨hx, hw x (hR.lt x hx) (fun e => hR.nsh l hD hm (e ▸ hx))⟩, fun m hm' => ?_, fun m ro g sz e xs hS => .inr ?_, fun m hS => ?_⟩
  · obtain ⟨hDm, bt, cs, hS⟩ := hm'
    by_cases e : m = l
    · subst e
      rcases hp with ⟨bt0, cs0, cs', h, ho, hb⟩ | ⟨g, sz, e, xs, g', xs', h, _, _⟩
      · exact ⟨⟨hDm, bt0, cs', by rw [← ho]; exact upd_same _ _ _⟩, by simp [ctxPut, hb]⟩
      · rw [h] at hS; cases hS
    · exact ⟨⟨hDm, bt, cs, by simp only [ctxPut]; rw [upd_ne _ _ e]; exact hS⟩, by simp [ctxPut, e]⟩
  · by_cases e' : m = l
    · subst e'
      rcases hp with ⟨bt0, cs0, cs', h, ho, hb⟩ | ⟨g0, sz0, e0, xs0, g', xs', h, ho, hg⟩
      · rw [h] at hS; cases hS
      · rw [h] at hS
        obtain ⟨rfl, rfl, rfl, rfl, rfl⟩ : ro = false ∧ g0 = g ∧ sz0 = sz ∧ e0 = e ∧ xs0 = xs := by
          injection hS with hS; injection hS with h1 h2 h3 h4 h5; exact ⟨h1.symm, h2, h3, h4, h5⟩
        refine ⟨false, g', sz0, e0, xs', by rw [← ho]; exact upd_same _ _ _, by omega, fun hgg => ?_⟩
        obtain ⟨_, hlen, hb, hc⟩ : g0 = g' ∧ xs'.length = xs0.length ∧ b = c.β m ∧ _ := hg.resolve_left (by omega)
        exact ⟨rfl, rfl, hlen, fun hDm => ⟨hDm, by simp [ctxPut, hb], fun cur fz hcur => hc cur fz hcur⟩⟩
    · refine ⟨ro, g, sz, e, xs, by simp only [ctxPut]; rw [upd_ne _ _ e']; exact hS, Nat.le_refl _, fun _ => ⟨rfl, rfl, rfl, fun hDm => ⟨hDm, by simp [ctxPut, e'], fun cur fz hc => ?_⟩⟩⟩
      by_cases hb : c.β m = c.β l
      · cases ro with
        | false =>
          have : m = l := hR.inj m l hDm hD (by simp [Mut, hS]) hm hb
          exact absurd this e'
        | true =>
          obtain ⟨_, _, _, _, _, hsh, _⟩ := hR.arr m true g sz e xs hDm hS
          exact absurd (hb ▸ hsh rfl) (hR.nsh l hD hm)
      · exact ⟨cur, fz, by simp only [ctxPut]; rw [hw _ (lt_of_get hc) hb]; exact hc, rfl⟩
  · have e : m ≠ l := fun e => by subst e; rcases hp with ⟨_, _, _, h, _, _⟩ | ⟨_, _, _, _, _, _, h, _, _⟩ <;> (rw [h] at hS; cases hS)
    simp only [ctxPut]; rw [upd_ne _ _ e]; exact hS

theorem ctxPut_rel {c : Ctx} {l : Loc} {o : Obj} {b : Nat} {w' : World} (hR : Rel c) (hD : c.D l) (hp : PutOk c l o b w')
    (hw : ∀ x, x < c.w.heap.size → x ≠ c.β l → w'.heap[x]? = c.w.heap[x]?) (hsz : c.w.heap.size ≤ w'.heap.size) (hb : b = c.β l ∨ c.w.heap.size ≤ b)
    {cur : Array Value} {ty : TypeId} (hn : w'.heap[b]? = some (.cells cur ty (0, 0)))
    (hbx : ∀ bt cs, o = .box bt cs → bt = ty ∧ lvleL l.1 cs = true ∧ ∃ vs, cur = vs.toArray ∧ RepL c cs vs)
    (ha : ∀ ro g sz e xs, o = .arr ro g sz e xs → ty = e ∧ ∃ vs, RepE c sz xs vs ∧ cur.toList.take vs.length = vs) : Rel (ctxPut c l o b w') := by
  have hk := ctxPut_kept hR hD hp hw
  have hml := hp.mut
  have hmut : ∀ m, Mut (ctxPut c l o b w') m → Mut c m := fun m h => by
    by_cases e : m = l
    · rw [e]; exact hml
    · simpa [Mut, ctxPut, upd_ne _ _ e] using h
  have nb : ∀ m, c.D m → m ≠ l → ∀ o', c.S m = some o' → o' ≠ .gone → c.β m ≠ c.β l := fun m hDm e o' hS ho hβ => by
    cases o' with
    | gone => exact ho rfl
    | box bt cs => exact e (hR.inj m l hDm hD (by simp [Mut, hS]) hml hβ)
    | arr ro g sz e1 xs =>
      cases ro with
      | false => exact e (hR.inj m l hDm hD (by simp [Mut, hS]) hml hβ)
      | true =>
        obtain ⟨_, _, _, _, _, hsh, _⟩ := hR.arr m true g sz e1 xs hDm hS
        exact hR.nsh l hD hml (hβ ▸ hsh rfl)
  refine ⟨fun m bt cs hDm hS => ?_, fun m ro g sz e xs hDm hS => ?_, fun m hDm hm => ?_, fun m m' hDm hDm' hm hm' hβ => ?_, fun x hx => Nat.lt_of_lt_of_le (hR.lt x hx) hsz, fun m hDm hS => ?_⟩
  · by_cases e : m = l
    · subst e
      rw [show (ctxPut c m o b w').S m = some o from upd_same _ _ _] at hS
      obtain ⟨h0, h1, vs, h3, h4⟩ := hbx bt cs (Option.some.inj hS)
      subst h0
      exact ⟨h1, vs, by simp only [ctxPut, if_true]; rw [hn, h3], h4.kept hk⟩
    · rw [show (ctxPut c l o b w').S m = c.S m from upd_ne _ _ e] at hS
      obtain ⟨h1, vs, h3, h4⟩ := hR.box m bt cs hDm hS
      exact ⟨h1, vs, by simp only [ctxPut, e, if_false]; rw [hw _ (lt_of_get h3) (nb m hDm e _ hS (by simp))]; exact h3, h4.kept hk⟩
  · by_cases e' : m = l
    · subst e'
      rw [show (ctxPut c m o b w').S m = some o from upd_same _ _ _] at hS
      obtain ⟨rfl, vs, h3, h4⟩ := ha ro g sz e xs (Option.some.inj hS)
      have hro : ro = false := by
        rcases hp with ⟨_, _, _, _, ho, _⟩ | ⟨_, _, _, _, _, _, _, ho, _⟩
        · rw [ho] at hS; cases hS
        · rw [ho] at hS; injection hS with hS; injection hS with h1; exact h1.symm
      subst hro
      refine ⟨cur, (0, 0), vs, by simp only [ctxPut, if_true]; exact hn, fun _ => rfl, ?_, h3.kept hk, h4⟩
      intro h; cases h
    · rw [show (ctxPut c l o b w').S m = c.S m from upd_ne _ _ e'] at hS
      obtain ⟨cur', fz, vs, h3, h4, h5, h6, h7⟩ := hR.arr m ro g sz e xs hDm hS
      exact ⟨cur', fz, vs, by simp only [ctxPut, e', if_false]; rw [hw _ (lt_of_get h3) (nb m hDm e' _ hS (by simp))]; exact h3, h4, fun h => by simp only [ctxPut, e', if_false]; exact h5 h, h6.kept hk, h7⟩
  · by_cases e : m = l
    · subst e
      simp only [ctxPut, if_true]
      rcases hb with hb | hb
      · rw [hb]; exact hR.nsh m hD hml
      · intro h; have := hR.lt _ h; omega
    · have := hR.nsh m hDm (hmut m hm)
      simpa [ctxPut, e] using this
  · by_cases e : m = l
    · by_cases e' : m' = l
      · rw [e, e']
      · simp only [ctxPut, e, e', if_true, if_false] at hβ
        rcases hb with hb | hb
        · rw [e]; exact (hR.inj l m' hD hDm' hml (hmut m' hm') (by rw [← hb]; exact hβ))
        · have := hR.mutLt hDm' (hmut m' hm'); omega
    · by_cases e' : m' = l
      · simp only [ctxPut, e, e', if_true, if_false] at hβ
        rcases hb with hb | hb
        · rw [e']; exact (hR.inj m l hDm hD (hmut m hm) hml (by rw [← hb]; exact hβ))
        · have := hR.mutLt hDm (hmut m hm); omega
      · simp only [ctxPut, e, e', if_false] at hβ
        exact hR.inj m m' hDm hDm' (hmut m hm) (hmut m' hm') hβ
  · by_cases e : m = l
    · subst e
      rw [show (ctxPut c m o b w').S m = some o from upd_same _ _ _] at hS
      cases hS
    · rw [show (ctxPut c l o b w').S m = c.S m from upd_ne _ _ e] at hS
      exact hR.dom m hDm hS

theorem ctxPut_fr {c : Ctx} {l : Loc} {o : Obj} {b : Nat} {w' : World} (hD : c.D l) (hp : PutOk c l o b w') (hc : Calm c.w w')
    (hw : ∀ x, x < c.w.heap.size → x ≠ c.β l → w'.heap[x]? = c.w.heap[x]?) (hsz : c.w.heap.size ≤ w'.heap.size) (hb : b = c.β l ∨ c.w.heap.size ≤ b) : Fr c (ctxPut c l o b w') := by
  refine ⟨hc.os, hc.tape, hc.output, hsz, fun x hx hn => hw x hx (fun e => hn l hD hp.mut e.symm), fun m hDm hm => ?_, fun b hb => .inl hb⟩
  by_cases e : m = l
  · subst e
    rcases hb with hb | hb
    · exact .inl ⟨hD, hp.mut, by simp [ctxPut, hb]⟩
    · exact .inr (by simp only [ctxPut, if_true]; exact hb)
  · exact .inl ⟨hDm, by simpa [Mut, ctxPut, upd_ne _ _ e] using hm, by simp [ctxPut, e]⟩

end Go.TM
