/- What a tree tells of a value in a world; and that it goes on telling it while nothing that it leans on has turned. -/
import Derived.Test.YtioldkniiilhnaaGreatDoorTmDef
import Derived.Laws.OwnMore
import Derived.Below
import Derived.OwnWalk
set_option linter.all false
namespace Go.TM
open Go
set_option linter.unusedVariables false

structure Ctx where
 S : Store
 D : Loc → Prop
 β : Loc → Nat
 Sh : Nat → Prop
 w : World

def OwnOk (c : Ctx) (l : Loc) (g off len : Nat) (A : Option Addr) (cap : Nat) : Prop :=
 match c.S l with
 | some (.arr _ g' sz e xs) => g ≤ g' ∧ (g = g' → c.D l ∧ off + len ≤ xs.length ∧ len ≤ cap ∧
   (cap = 0 ∨ ∃ cur fz, A = some ⟨c.β l, off * sz, none⟩ ∧ c.w.heap[c.β l]? = some (.cells cur e fz) ∧ (off + cap) * sz ≤ cur.size))
 | some .gone => True
 | _ => False

def AptrOk (c : Ctx) (l : Loc) (g i off : Nat) (p : Addr) : Prop :=
 match c.S l with
 | some (.arr _ g' sz _ xs) => g ≤ g' ∧ (g = g' → c.D l ∧ i < xs.length ∧ p = ⟨c.β l, i * sz + off, none⟩)
 | some .gone => True
 | _ => False

def BoxOk (c : Ctx) (l : Loc) : Prop := c.D l ∧ ∃ bt cs, c.S l = some (.box bt cs)

mutual
inductive Rep (c : Ctx) : T → Value → Prop
 | undef (v : Value) : Rep c .undef v
 | sc (v : Value) (h : isSc v = true) : Rep c (.sc v) v
 | lst0 (sz : Nat) (A : Option Addr) (cap : Nat) : Rep c (.lst sz []) (.slice A 0 cap)
 | lst (sz : Nat) (xs : List T) (b o cap : Nat) (vs : List Value) (hs : c.Sh b) (hE : RepE c sz xs vs) (hc : ∀ i v, vs[i]? = some v → c.w.cell? ⟨b, o + i, none⟩ = some v)
   (hcap : xs.length ≤ cap) : Rep c (.lst sz xs) (.slice (some ⟨b, o, none⟩) xs.length cap)
 | own (l : Loc) (g off len : Nat) (A : Option Addr) (cap : Nat) (h : OwnOk c l g off len A cap) : Rep c (.own l g off len) (.slice A len cap)
 | ptr (l : Loc) (off : Nat) (h : BoxOk c l) : Rep c (.ptr l off) (.pointer (some ⟨c.β l, off, none⟩))
 | lptr (sz : Nat) (xs : List T) (i off b o : Nat) (vs : List Value) (hs : c.Sh b) (hE : RepE c sz xs vs) (hc : ∀ i v, vs[i]? = some v → c.w.cell? ⟨b, o + i, none⟩ = some v) :
   Rep c (.lptr sz xs i off) (.pointer (some ⟨b, o + i * sz + off, none⟩))
 | aptr (l : Loc) (g i off : Nat) (p : Addr) (h : AptrOk c l g i off p) : Rep c (.aptr l g i off) (.pointer (some p))
 | clo (f : FuncId) (cs : List T) (vs : List Value) (h : RepL c cs vs) : Rep c (.clo f cs) (.func (.func f) #[] vs.toArray)
 | agg (cs : List T) (vs : List Value) (h : RepL c cs vs) : Rep c (.agg cs) (.agg vs.toArray)
 | tup (cs : List T) (vs : List Value) (h : RepL c cs vs) : Rep c (.tup cs) (.tuple vs.toArray)
inductive RepL (c : Ctx) : List T → List Value → Prop
 | nil : RepL c [] []
 | cons (x : T) (v : Value) (xs : List T) (vs : List Value) (h : Rep c x v) (hr : RepL c xs vs) : RepL c (x :: xs) (v :: vs)
inductive RepE (c : Ctx) : Nat → List T → List Value → Prop
 | nil (sz : Nat) : RepE c sz [] []
 | cons (sz : Nat) (x : T) (v : Value) (xs : List T) (ws : List Value) (h : Rep c x v) (hl : x.cells.length = sz) (hcl : closed x = true) (hr : RepE c sz xs ws) :
   RepE c sz (x :: xs) (v.cells.toList ++ ws)
end

/-- What holds on: shared blocks as they were, variables where they were, rows where they were or marked anew. -/
structure Kept (c c' : Ctx) : Prop where
 sh : ∀ b, c.Sh b → c'.Sh b ∧ c'.w.heap[b]? = c.w.heap[b]?
 box : ∀ l, BoxOk c l → BoxOk c' l ∧ c'.β l = c.β l
 arr : ∀ l ro g sz e xs, c.S l = some (.arr ro g sz e xs) → c'.S l = some .gone ∨ ∃ ro' g' sz' e' xs', c'.S l = some (.arr ro' g' sz' e' xs') ∧ g ≤ g' ∧
  (g = g' → sz' = sz ∧ e' = e ∧ xs'.length = xs.length ∧ (c.D l → c'.D l ∧ c'.β l = c.β l ∧
   ∀ cur fz, c.w.heap[c.β l]? = some (.cells cur e fz) → ∃ cur' fz', c'.w.heap[c.β l]? = some (.cells cur' e fz') ∧ cur'.size = cur.size))
 gone : ∀ l, c.S l = some .gone → c'.S l = some .gone

theorem OwnOk.kept {c c' : Ctx} (h : Kept c c') {l : Loc} {g off len : Nat} {A : Option Addr} {cap : Nat} (ho : OwnOk c l g off len A cap) : OwnOk c' l g off len A cap := by
 unfold OwnOk at ho ⊢
 cases hS : c.S l with
 | none => simp [hS] at ho
 | some o =>
  cases o with
  | box bt cs => simp [hS] at ho
  | gone => rw [h.gone l hS]; trivial
  | arr ro g0 sz e xs =>
   simp only [hS] at ho
   rcases h.arr l ro g0 sz e xs hS with hg | ⟨ro', g', sz', e', xs', hS', hle, hk⟩
   ·rw [hg]; trivial
   ·rw [hS']
    refine ⟨Nat.le_trans ho.1 hle, fun hgg => ?_⟩
    have hg0 : g = g0 := by omega
    have hg1 : g0 = g' := by omega
    obtain ⟨hD, hlen, hcap, hA⟩ := ho.2 hg0
    obtain ⟨rfl, rfl, hxl, hk⟩ := hk hg1
    obtain ⟨hD', hβ, hcells⟩ := hk hD
    refine ⟨hD', by omega, hcap, ?_⟩
    rcases hA with h0 | ⟨cur, fz, hA, hw, hsz⟩
    ·exact .inl h0
    ·obtain ⟨cur', fz', hw', hs'⟩ := hcells cur fz hw
     exact .inr ⟨cur', fz', by rw [hβ]; exact hA, by rw [hβ]; exact hw', by omega⟩

theorem AptrOk.kept {c c' : Ctx} (h : Kept c c') {l : Loc} {g i off : Nat} {p : Addr} (ho : AptrOk c l g i off p) : AptrOk c' l g i off p := by
 unfold AptrOk at ho ⊢
 cases hS : c.S l with
 | none => simp [hS] at ho
 | some o =>
  cases o with
  | box bt cs => simp [hS] at ho
  | gone => rw [h.gone l hS]; trivial
  | arr ro g0 sz e xs =>
   simp only [hS] at ho
   rcases h.arr l ro g0 sz e xs hS with hg | ⟨ro', g', sz', e', xs', hS', hle, hk⟩
   ·rw [hg]; trivial
   ·rw [hS']
    refine ⟨Nat.le_trans ho.1 hle, fun hgg => ?_⟩
    have hg0 : g = g0 := by omega
    have hg1 : g0 = g' := by omega
    obtain ⟨hD, hi, hp⟩ := ho.2 hg0
    obtain ⟨rfl, rfl, hxl, hk⟩ := hk hg1
    obtain ⟨hD', hβ, _⟩ := hk hD
    exact ⟨hD', by omega, by rw [hβ]; exact hp⟩

theorem cell_kept {w w' : World} {b i : Nat} (h : w'.heap[b]? = w.heap[b]?) : w'.cell? ⟨b, i, none⟩ = w.cell? ⟨b, i, none⟩ := by simp [World.cell?, h]

mutual
theorem Rep.kept {c c' : Ctx} (h : Kept c c') {t : T} {v : Value} : Rep c t v → Rep c' t v
 | .undef v => .undef v
 | .sc v hv => .sc v hv
 | .lst0 sz A cap => .lst0 sz A cap
 | .lst sz xs b o cap vs hs hE hc hcap => .lst sz xs b o cap vs (h.sh b hs).1 (RepE.kept h hE) (fun i v hi => (cell_kept (h.sh b hs).2).trans (hc i v hi)) hcap
 | .own l g off len A cap ho => .own l g off len A cap (ho.kept h)
 | .ptr l off hb => by
  have hp := Rep.ptr (c := c') l off (h.box l hb).1
  rw [(h.box l hb).2] at hp
  exact hp
 | .lptr sz xs i off b o vs hs hE hc => .lptr sz xs i off b o vs (h.sh b hs).1 (RepE.kept h hE) (fun i v hi => (cell_kept (h.sh b hs).2).trans (hc i v hi))
 | .aptr l g i off p ho => .aptr l g i off p (ho.kept h)
 | .clo f cs vs hl => .clo f cs vs (RepL.kept h hl)
 | .agg cs vs hl => .agg cs vs (RepL.kept h hl)
 | .tup cs vs hl => .tup cs vs (RepL.kept h hl)
theorem RepL.kept {c c' : Ctx} (h : Kept c c') {ts : List T} {vs : List Value} : RepL c ts vs → RepL c' ts vs
 | .nil => .nil
 | .cons x v xs vs hx hr => .cons x v xs vs (Rep.kept h hx) (RepL.kept h hr)
theorem RepE.kept {c c' : Ctx} (h : Kept c c') {sz : Nat} {ts : List T} {vs : List Value} : RepE c sz ts vs → RepE c' sz ts vs
 | .nil sz => .nil sz
 | .cons sz x v xs ws hx hl hcl hr => .cons sz x v xs ws (Rep.kept h hx) hl hcl (RepE.kept h hr)
end

theorem Kept.refl (c : Ctx) : Kept c c := ⟨fun _ h => ⟨h, rfl⟩, fun _ h => ⟨h, rfl⟩,
 fun l ro g sz e xs h => .inr ⟨ro, g, sz, e, xs, h, Nat.le_refl _, fun _ => ⟨rfl, rfl, rfl, fun hD => ⟨hD, rfl, fun cur fz hw => ⟨cur, fz, hw, rfl⟩⟩⟩⟩, fun _ h => h⟩

theorem Kept.trans {a b c : Ctx} (h : Kept a b) (k : Kept b c) : Kept a c := by
 refine ⟨fun x hx => ⟨(k.sh x (h.sh x hx).1).1, (k.sh x (h.sh x hx).1).2.trans (h.sh x hx).2⟩,
  fun l hl => ⟨(k.box l (h.box l hl).1).1, (k.box l (h.box l hl).1).2.trans (h.box l hl).2⟩, fun l ro g sz e xs hS => ?_, fun l hl => k.gone l (h.gone l hl)⟩
 rcases h.arr l ro g sz e xs hS with hg | ⟨ro1, g1, sz1, e1, xs1, hS1, hle1, hk1⟩
 ·exact .inl (k.gone l hg)
 ·rcases k.arr l ro1 g1 sz1 e1 xs1 hS1 with hg | ⟨ro2, g2, sz2, e2, xs2, hS2, hle2, hk2⟩
  ·exact .inl hg
  ·refine .inr ⟨ro2, g2, sz2, e2, xs2, hS2, Nat.le_trans hle1 hle2, fun hgg => ?_⟩
   obtain ⟨rfl, rfl, hx1, hm1⟩ := hk1 (by omega)
   obtain ⟨rfl, rfl, hx2, hm2⟩ := hk2 (by omega)
   refine ⟨rfl, rfl, hx2.trans hx1, fun hD => ?_⟩
   obtain ⟨hD1, hβ1, hc1⟩ := hm1 hD
   obtain ⟨hD2, hβ2, hc2⟩ := hm2 hD1
   refine ⟨hD2, hβ2.trans hβ1, fun cur fz hw => ?_⟩
   obtain ⟨cur1, fz1, hw1, hs1⟩ := hc1 cur fz hw
   obtain ⟨cur2, fz2, hw2, hs2⟩ := hc2 cur1 fz1 (by rw [hβ1]; exact hw1)
   exact ⟨cur2, fz2, by rw [hβ1] at hw2; exact hw2, hs2.trans hs1⟩

/-- May this place be written? -/
def Mut (c : Ctx) (l : Loc) : Prop := match c.S l with
 | some (.box _ _) => True
 | some (.arr ro _ _ _ _) => ro = false
 | _ => False

/-- The world bears the store: each place its block; blocks that may be written are each one place's, and shared by none. -/
structure Rel (c : Ctx) : Prop where
 box : ∀ l bt cs, c.D l → c.S l = some (.box bt cs) → lvleL l.1 cs = true ∧ ∃ vs, c.w.heap[c.β l]? = some (.cells vs.toArray bt (0, 0)) ∧ RepL c cs vs
 arr : ∀ l ro g sz e xs, c.D l → c.S l = some (.arr ro g sz e xs) → ∃ cur fz vs, c.w.heap[c.β l]? = some (.cells cur e fz) ∧ (ro = false → fz = (0, 0)) ∧ (ro = true → c.Sh (c.β l)) ∧
  RepE c sz xs vs ∧ cur.toList.take vs.length = vs
 nsh : ∀ l, c.D l → Mut c l → ¬ c.Sh (c.β l)
 inj : ∀ l l', c.D l → c.D l' → Mut c l → Mut c l' → c.β l = c.β l' → l = l'
 lt : ∀ b, c.Sh b → b < c.w.heap.size
 dom : ∀ l, c.D l → c.S l ≠ none

/-- How the world has turned: what was no writable place's block is as it was; writable places stand in their old blocks or in new ones; shared are old shared blocks, new ones, or writable places' ones. -/
structure Fr (c c' : Ctx) : Prop where
 os : c'.w.os = c.w.os
 tape : c'.w.tape = c.w.tape
 output : c'.w.output = c.w.output
 size : c.w.heap.size ≤ c'.w.heap.size
 blk : ∀ b, b < c.w.heap.size → (∀ l, c.D l → Mut c l → c.β l ≠ b) → c'.w.heap[b]? = c.w.heap[b]?
 own : ∀ l, c'.D l → Mut c' l → (c.D l ∧ Mut c l ∧ c'.β l = c.β l) ∨ c.w.heap.size ≤ c'.β l
 shn : ∀ b, c'.Sh b → c.Sh b ∨ c.w.heap.size ≤ b ∨ ∃ l, c.D l ∧ Mut c l ∧ c.β l = b

theorem Fr.refl (c : Ctx) : Fr c c := ⟨rfl, rfl, rfl, Nat.le_refl _, fun _ _ _ => rfl, fun _ hD hm => .inl ⟨hD, hm, rfl⟩, fun _ h => .inl h⟩

theorem Fr.trans {a b c : Ctx} (h : Fr a b) (k : Fr b c) : Fr a c := by
 refine ⟨k.os.trans h.os, k.tape.trans h.tape, k.output.trans h.output, Nat.le_trans h.size k.size, fun x hx hn => ?_, fun l hD hm => ?_, fun x hx => ?_⟩
 ·refine (k.blk x (Nat.lt_of_lt_of_le hx h.size) (fun l hD hm => ?_)).trans (h.blk x hx hn)
  rcases h.own l hD hm with ⟨hD0, hm0, hβ⟩ | hge
  ·rw [hβ]; exact hn l hD0 hm0
  ·omega
 ·rcases k.own l hD hm with ⟨hD1, hm1, hβ1⟩ | hge
  ·rcases h.own l hD1 hm1 with ⟨hD0, hm0, hβ0⟩ | hge
   ·exact .inl ⟨hD0, hm0, hβ1.trans hβ0⟩
   ·exact .inr (by rw [hβ1]; exact hge)
  ·exact .inr (Nat.le_trans h.size hge)
 ·rcases k.shn x hx with h1 | h1 | ⟨l, hD, hm, rfl⟩
  ·exact h.shn x h1
  ·exact .inr (.inl (Nat.le_trans h.size h1))
  ·rcases h.own l hD hm with ⟨hD0, hm0, hβ⟩ | hge
   ·exact .inr (.inr ⟨l, hD0, hm0, hβ.symm⟩)
   ·exact .inr (.inl hge)

end Go.TM
