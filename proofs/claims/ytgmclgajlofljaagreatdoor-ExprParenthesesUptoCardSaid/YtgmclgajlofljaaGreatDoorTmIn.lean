/- What comes in: plain data in memory (truth values, whole numbers, texts, slices and records of these), as trees. -/
import Derived.Test.YtgmclgajlofljaaGreatDoorTmRun
import Derived.ChangeShapes
import GoSem.ClaimChange
import Derived.Test.YtgmclgajlofljaaGreatDoorTmIn3
import Derived.Test.YtgmclgajlofljaaGreatDoorTmFix
import Derived.Below
set_option linter.all false
namespace Go.TM
open Go
def tiles (P : Program) (n : Nat) : Nat → List Field → Bool
 | o, [] => o == n
 | o, f :: r => f.offset == o && tiles P n (o + P.cellsOf f.type) r
def okT (P : Program) (Ts : List TypeId) (t : TypeId) : Bool :=
 match P.underlying t with
 | some .bool | some (.int _) | some .string => P.cellsOf t == 1
 | some (.slice e) => P.cellsOf t == 1 && (Ts.contains e && decide (0 < P.cellsOf e))
 | some (.struct fs) => fs.toList.all (fun f => Ts.contains f.type) && tiles P (P.cellsOf t) 0 fs.toList
 | _ => false
def okTs (P : Program) (Ts : List TypeId) : Bool := Ts.all (okT P Ts)
def wrapT (P : Program) (e : TypeId) (cs : List T) : T :=
 match P.underlying e with
 | some (.struct _) | some (.array _ _) => .agg cs
 | _ => cs.headD .undef
def dT {H : Type} (P : Program) : Nat → TypeId → DataW H → Option (List T)
 | 0, _, _ => none
 | n + 1, t, d =>
  match P.underlying t, d with
  | some .bool, .lit (.bool b) => some [.sc (.bool b)]
  | some (.int k), .lit (.int k' m) => if k' = k ∧ (Lit.int k m).wf = true then some [.sc (.int k m)] else none
  | some .string, .lit (.string s) => some [.sc (str s)]
  | some (.slice e), .nil => some [.lst (P.cellsOf e) []]
  | some (.slice e), .slice elems _ => (elems.mapM fun x => (dT P n e x).map (wrapT P e)).map fun ls => [.lst (P.cellsOf e) ls]
  | some (.struct fs), .agg parts => if fs.toList.length = parts.length then ((fs.toList.zip parts).mapM fun p => dT P n p.1.type p.2).map List.flatten else none
  | _, _ => none
theorem mapM_nil' {α β : Type} (f : α → Option β) : ([] : List α).mapM f = some [] := rfl
theorem mapM_cons' {α β : Type} {f : α → Option β} {x : α} {xs : List α} {r : List β} : (x :: xs).mapM f = some r ↔ ∃ y ys, f x = some y ∧ xs.mapM f = some ys ∧ r = y :: ys := by
 rw [List.mapM_cons]
 cases hx : f x with
 | none => simp
 | some y =>
  cases hxs : xs.mapM f with
  | none => simp [hxs]
  | some ys =>
   simp only [Option.bind_eq_bind, Option.bind_some, hxs, Option.some.injEq, Option.pure_def]
   constructor
   ·rintro rfl; exact ⟨y, ys, rfl, rfl, rfl⟩
   ·rintro ⟨y', ys', rfl, rfl, rfl⟩; rfl
theorem RepL_app {c : Ctx} : ∀ {a b : List T} {u v : List Value}, RepL c a u → RepL c b v → RepL c (a ++ b) (u ++ v)
 | [], b, u, v, h, k => by cases h; exact k
 | x :: a, b, u, v, h, k => by
  cases h with
  | cons _ w _ ws h1 h2 => exact .cons x w _ _ h1 (RepL_app h2 k)
theorem RepL_len {c : Ctx} : ∀ {a : List T} {u : List Value}, RepL c a u → a.length = u.length
 | [], u, h => by cases h; rfl
 | x :: a, u, h => by
  cases h with
  | cons _ w _ ws h1 h2 => simp [RepL_len h2]
def cleanL (xs : List T) : Bool := closedL xs && xs.all one
theorem cleanL_app (a b : List T) : cleanL (a ++ b) = (cleanL a && cleanL b) := by
 unfold cleanL
 have : closedL (a ++ b) = (closedL a && closedL b) := by
  induction a with
  | nil => simp [closedL]
  | cons x xs ih => simp only [List.cons_append, closedL, ih, Bool.and_assoc]
 rw [this, List.all_append]
 cases closedL a <;> cases closedL b <;> cases a.all one <;> cases b.all one <;> rfl
section
variable {H : Type} {enc : TypeId × Value → H} {P : Program} {Ts : List TypeId} {w : World} {c : Ctx} {sp : Nat → Bool} {held : Bool}
def InOk (P : Program) (c : Ctx) (n : Nat) (t : TypeId) (cs : List Value) (d : DataW H) : Prop :=
 ∃ xs, dT P n t d = some xs ∧ RepL c xs cs ∧ cleanL xs = true ∧ xs.length = P.cellsOf t
theorem fieldsIn {n : Nat} {cs : List Value} (ih : ∀ t cs d ps, t ∈ Ts → DataW.trod enc P w 0 sp held n t cs = some (d, ps) → InOk P c n t cs d) :
  ∀ (fs : List Field) (o : Nat) (xs : List (DataW H × List MemPlace)), (∀ f ∈ fs, f.type ∈ Ts) → tiles P cs.length o fs = true →
   (fs.mapM fun f => DataW.trod enc P w 0 sp held n f.type ((cs.drop f.offset).take (P.cellsOf f.type))) = some xs →
   ∃ ls, ((fs.zip (xs.map (·.1))).mapM fun p => dT P n p.1.type p.2) = some ls ∧ RepL c ls.flatten (cs.drop o) ∧ cleanL ls.flatten = true
 | [], o, xs, _, ht, hx => by
  rw [mapM_nil'] at hx
  simp only [Option.some.injEq] at hx
  subst hx
  simp only [tiles, beq_iff_eq] at ht
  subst ht
  exact ⟨[], rfl, by rw [List.drop_length]; exact .nil, rfl⟩
 | f :: fs, o, xs, hf, ht, hx => by
  obtain ⟨y, ys, h1, h2, rfl⟩ := mapM_cons'.1 hx
  simp only [tiles, Bool.and_eq_true, beq_iff_eq] at ht
  obtain ⟨ho, ht⟩ := ht
  obtain ⟨d, ps⟩ := y
  obtain ⟨xs1, e1, e2, e3, e4⟩ := ih _ _ _ _ (hf f (by simp)) h1
  obtain ⟨ls, f1, f2, f3⟩ := fieldsIn ih fs _ ys (fun g hg => hf g (by simp [hg])) ht h2
  refine ⟨xs1 :: ls, ?_, ?_, ?_⟩
  ·rw [List.map_cons, List.zip_cons_cons]
   exact mapM_cons'.2 ⟨xs1, ls, e1, f1, rfl⟩
  ·rw [List.flatten_cons, ← List.take_append_drop (P.cellsOf f.type) (cs.drop o), List.drop_drop]
   rw [ho] at e2
   exact RepL_app e2 f2
  ·rw [List.flatten_cons, cleanL_app, e3, f3]; rfl
theorem mapM_get {α β : Type} {f : α → Option β} : ∀ {l : List α} {r : List β}, l.mapM f = some r → r.length = l.length ∧ ∀ (i : Nat) (x : β), r[i]? = some x → ∃ y, l[i]? = some y ∧ f y = some x
 | [], r, h => by rw [mapM_nil'] at h; simp only [Option.some.injEq] at h; subst h; exact ⟨rfl, fun i x hx => by simp at hx⟩
 | a :: l, r, h => by
  obtain ⟨y, ys, h1, h2, rfl⟩ := mapM_cons'.1 h
  have ih := mapM_get h2
  refine ⟨by simp [ih.1], fun i x hx => ?_⟩
  cases i with
  | zero => simp only [List.getElem?_cons_zero, Option.some.injEq] at hx ⊢; subst hx; exact ⟨a, rfl, h1⟩
  | succ i => rw [List.getElem?_cons_succ] at hx ⊢; exact ih.2 i x hx
theorem cellsIn {a : Addr} {k : Nat} {vs : List Value} (h : w.cells? 0 a k = some vs) : vs.length = k ∧ ∀ i v, vs[i]? = some v → w.cell? (a.add i) = some v := by
 unfold World.cells? at h
 rw [if_pos (Nat.zero_le _)] at h
 have hg := mapM_get h
 refine ⟨by rw [hg.1, List.length_range], fun i v hv => ?_⟩
 obtain ⟨y, hy, hf⟩ := hg.2 i v hv
 rw [List.getElem?_eq_some_iff] at hy
 obtain ⟨hi, rfl⟩ := hy
 simpa using hf
theorem add_add (a : Addr) (x i : Nat) : (a.add x).add i = a.add (x + i) := by
 unfold Addr.add
 by_cases hx : x = 0
 ·subst hx; simp
 ·by_cases hi : i = 0
  ·subst hi; simp
  ·have : ¬ x + i = 0 := by omega
   simp [hx, hi, this, Nat.add_assoc]
theorem cell_add {a : Addr} {k : Nat} {v : Value} (h : w.cell? (a.add k) = some v) (ha : a.spot = none) : w.cell? ⟨a.block, a.off + k, none⟩ = some v := by
 unfold Addr.add at h
 by_cases hk : k = 0
 ·subst hk; rw [if_pos rfl] at h; rw [← h]; cases a; simp at ha; subst ha; rfl
 ·rw [if_neg hk] at h; exact h
theorem cell_spot {a : Addr} {v : Value} (h : w.cell? a = some v) : a.spot = none ∧ a.block < w.heap.size := by
 unfold World.cell? at h
 split at h
 ·rename_i hb
  split at h
  ·cases h
  ·rename_i hs
   refine ⟨by simpa using hs, ?_⟩
   rcases Nat.lt_or_ge a.block w.heap.size with hh | hh
   ·exact hh
   ·rw [Array.getElem?_eq_none hh] at hb; cases hb
 ·cases h
theorem one_cells {x : T} {v : Value} (h1 : one x = true) (h2 : closed x = true) (h : Rep c x v) : x.cells.length = 1 ∧ v.cells.toList = [v] := by
 cases h with
 | sc v hv => refine ⟨rfl, ?_⟩; cases v <;> first | rfl | simp [isSc] at hv
 | lst0 => exact ⟨rfl, rfl⟩
 | lst => exact ⟨rfl, rfl⟩
 | undef => simp [one] at h1
 | agg => simp [one] at h1
 | tup => simp [one] at h1
 | own => simp [closed] at h2
 | ptr => simp [closed] at h2
 | lptr => simp [closed] at h2
 | aptr => simp [closed] at h2
 | clo => simp [closed] at h2
 | mth => simp [closed] at h2
def isRec (P : Program) (e : TypeId) : Bool := match P.underlying e with
 | some (.struct _) | some (.array _ _) => true
 | _ => false
theorem wrapT_t {e : TypeId} (h : isRec P e = true) (xs : List T) : wrapT P e xs = .agg xs := by
 unfold isRec at h; unfold wrapT; split at h <;> first | rfl | cases h
theorem wrapT_f {e : TypeId} (h : isRec P e = false) (x : T) : wrapT P e [x] = x := by
 unfold isRec at h; unfold wrapT; split at h <;> first | rfl | cases h
theorem rowsIn {n : Nat} {e : TypeId} {a : Addr} (he : e ∈ Ts) (h1 : isRec P e = false → P.cellsOf e = 1) (ih : ∀ t cs d ps, t ∈ Ts → DataW.trod enc P w 0 sp held n t cs = some (d, ps) → InOk P c n t cs d) :
  ∀ (m j : Nat) (xs : List (DataW H × List MemPlace)), ((List.range' j m).mapM fun i => (w.cells? 0 (a.add (i * P.cellsOf e)) (P.cellsOf e)).bind (DataW.trod enc P w 0 sp held n e)) = some xs →
   ∃ es vs, ((xs.map (·.1)).mapM fun x => (dT P n e x).map (wrapT P e)) = some es ∧ RepE c (P.cellsOf e) es vs ∧ es.length = m ∧ vs.length = m * P.cellsOf e ∧ ∀ i v, vs[i]? = some v → w.cell? (a.add (j * P.cellsOf e + i)) = some v
 | 0, j, xs, hx => by
  rw [List.range'_zero, mapM_nil'] at hx
  simp only [Option.some.injEq] at hx
  subst hx
  exact ⟨[], [], rfl, .nil _, rfl, by simp, fun i v h => by simp at h⟩
 | m + 1, j, xs, hx => by
  rw [List.range'_succ] at hx
  obtain ⟨y, ys, g1, g2, rfl⟩ := mapM_cons'.1 hx
  obtain ⟨d, ps⟩ := y
  rw [Option.bind_eq_some_iff] at g1
  obtain ⟨vs0, k1, k2⟩ := g1
  obtain ⟨c1, c2⟩ := cellsIn k1
  obtain ⟨xs1, e1, e2, e3, e4⟩ := ih _ _ _ _ he k2
  obtain ⟨es, vs, f1, f2, f3, f5, f4⟩ := rowsIn he h1 ih m (j + 1) ys g2
  unfold cleanL at e3
  rw [Bool.and_eq_true] at e3
  have key : ∃ v, Rep c (wrapT P e xs1) v ∧ v.cells.toList = vs0 ∧ (wrapT P e xs1).cells.length = P.cellsOf e ∧ closed (wrapT P e xs1) = true := by
   cases hr : isRec P e with
   | true =>
    rw [wrapT_t hr]
    exact ⟨.agg vs0.toArray, .agg _ _ e2, rfl, e4, by simp only [closed, Bool.and_eq_true]; exact e3⟩
   | false =>
    have hs := h1 hr
    rw [hs] at e4
    match xs1, e4, e2, e3 with
    | [x], _, e2, e3 =>
     cases e2 with
     | cons _ v _ ws r1 r2 =>
      cases r2
      rw [wrapT_f hr]
      simp only [closedL, Bool.and_true, List.all_cons, List.all_nil] at e3
      obtain ⟨q1, q2⟩ := one_cells e3.2 e3.1 r1
      exact ⟨v, r1, q2, by rw [q1, hs], e3.1⟩
  obtain ⟨v, r1, r2, r3, r4⟩ := key
  refine ⟨wrapT P e xs1 :: es, vs0 ++ vs, ?_, ?_, by simp [f3], by rw [List.length_append, c1, f5, Nat.succ_mul]; omega, ?_⟩
  ·rw [List.map_cons]
   exact mapM_cons'.2 ⟨_, _, by rw [e1]; rfl, f1, rfl⟩
  ·rw [← r2]; exact .cons _ _ v _ _ r1 r3 r4 f2
  ·intro i u hu
   rcases Nat.lt_or_ge i vs0.length with hi | hi
   ·rw [List.getElem?_append_left hi] at hu
    have := c2 i u hu
    rw [add_add] at this
    exact this
   ·rw [List.getElem?_append_right hi] at hu
    have := f4 _ u hu
    rw [c1] at this hi
    have e : (j + 1) * P.cellsOf e + (i - P.cellsOf e) = j * P.cellsOf e + i := by rw [Nat.succ_mul]; omega
    rw [e] at this
    exact this
theorem enter (hT : okTs P Ts = true) (hw : c.w = w) (hS : ∀ b, b < w.heap.size → c.Sh b) : ∀ n t cs d ps, t ∈ Ts → DataW.trod enc P w 0 sp held n t cs = some (d, ps) → InOk P c n t cs d := by
 intro n
 induction n with
 | zero => intro t cs d ps _ h; simp [DataW.trod] at h
 | succ n ih =>
  intro t cs d ps ht h
  have hok := List.all_eq_true.1 hT t ht
  unfold okT at hok
  rw [DataW.trod.eq_def] at h; simp only [] at h
  split at h
  case h_1 _ _ b hu =>
   simp only [hu, beq_iff_eq] at hok
   simp only [Option.some.injEq, Prod.mk.injEq] at h
   obtain ⟨rfl, _⟩ := h
   exact ⟨[.sc (.bool b)], by simp [dT, hu], .cons _ _ _ _ (.sc _ rfl) .nil, rfl, by rw [hok]; rfl⟩
  case h_2 _ _ k k' m hu =>
   simp only [hu, beq_iff_eq] at hok
   split at h
   ·rename_i hk
    obtain ⟨rfl, hwf⟩ := hk
    simp only [Option.some.injEq, Prod.mk.injEq] at h
    obtain ⟨rfl, _⟩ := h
    exact ⟨[.sc (.int k' m)], by simp [dT, hu, hwf], .cons _ _ _ _ (.sc _ rfl) .nil, rfl, by rw [hok]; rfl⟩
   ·cases h
  case h_4 _ _ s hu =>
   simp only [hu, beq_iff_eq] at hok
   split at h
   ·simp only [Option.some.injEq, Prod.mk.injEq] at h
    obtain ⟨rfl, _⟩ := h
    exact ⟨[.sc (str s.data.toList)], by simp [dT, hu], .cons _ _ _ _ (.sc _ rfl) .nil, rfl, by rw [hok]; rfl⟩
   ·cases h
  case h_7 _ _ e hu =>
   simp only [hu, Bool.and_eq_true, beq_iff_eq] at hok
   simp only [Option.some.injEq, Prod.mk.injEq] at h
   obtain ⟨rfl, _⟩ := h
   exact ⟨[.lst (P.cellsOf e) []], by simp [dT, hu], .cons _ _ _ _ (.lst0 _ _ _) .nil, rfl, by rw [hok.1]; rfl⟩
  case h_8 _ _ e a len cap hu =>
   simp only [hu, Bool.and_eq_true, beq_iff_eq, decide_eq_true_eq] at hok
   split at h
   ·rename_i hc
    rw [Option.bind_eq_some_iff] at h
    obtain ⟨elems, h1, h2⟩ := h
    rw [Option.map_eq_some_iff] at h2
    obtain ⟨rest, _, h3⟩ := h2
    simp only [Prod.mk.injEq] at h3
    obtain ⟨rfl, _⟩ := h3
    have he : e ∈ Ts := by simpa using hok.2.1
    have hoke := List.all_eq_true.1 hT e he
    have hs1 : isRec P e = false → P.cellsOf e = 1 := by
     intro hr
     unfold okT at hoke
     unfold isRec at hr
     split at hoke
     ·simpa using hoke
     ·simpa using hoke
     ·simpa using hoke
     ·simp only [Bool.and_eq_true, beq_iff_eq] at hoke; exact hoke.1
     ·rename_i hq; simp [hq] at hr
     ·cases hoke
    rw [List.range_eq_range'] at h1
    obtain ⟨es, vs, f1, f2, f3, f5, f4⟩ := rowsIn (Ts := Ts) he hs1 ih len 0 elems h1
    refine ⟨[.lst (P.cellsOf e) es], ?_, ?_, ?_, by rw [hok.1]; rfl⟩
    ·simp only [dT, hu, f1, Option.map_some]
    ·cases es with
     | nil =>
      have : len = 0 := by simpa using f3.symm
      subst this
      exact .cons _ _ _ _ (.lst0 _ _ _) .nil
     | cons x xs =>
      have hl0 : 0 < vs.length := by rw [f5, ← f3]; exact Nat.mul_pos (by simp) hok.2.2
      have h0 : ∃ u, vs[0]? = some u := ⟨vs[0], by simp [hl0]⟩
      obtain ⟨u, hu0⟩ := h0
      have hc0 := f4 0 u hu0
      have ha : (a.add 0) = a := by unfold Addr.add; rw [if_pos rfl]
      rw [Nat.zero_mul, Nat.zero_add, ha] at hc0
      obtain ⟨sp1, sp2⟩ := cell_spot hc0
      have hA : some a = some (⟨a.block, a.off, none⟩ : Addr) := by cases a; simp at sp1; subst sp1; rfl
      rw [hA, ← f3]
      refine .cons _ _ _ _ (.lst _ _ a.block a.off cap vs (hS _ sp2) f2 (fun i z hz => ?_) (by rw [f3]; exact hc.2.1)) .nil
      have := f4 i z hz
      rw [Nat.zero_mul, Nat.zero_add] at this
      rw [hw]
      exact cell_add this sp1
    ·have hcl : ∀ (sz : Nat) (es : List T) (vs : List Value), RepE c sz es vs → closedL es = true := by
      intro sz es
      induction es with
      | nil => intro vs _; rfl
      | cons x xs ihx => intro vs hh; cases hh with
       | cons _ _ v _ ws g1 g2 g3 g4 => simp only [closedL, g3, ihx _ g4, Bool.and_self]
     unfold cleanL
     simp only [closedL, closed, hcl _ _ _ f2, List.all_cons, List.all_nil, one, Bool.and_self]
   ·cases h
  case h_9 _ _ _ fs hu =>
   simp only [hu, Bool.and_eq_true] at hok
   split at h
   ·rename_i hlen
    rw [Option.map_eq_some_iff] at h
    obtain ⟨xs, h1, h2⟩ := h
    simp only [Prod.mk.injEq] at h2
    obtain ⟨rfl, _⟩ := h2
    rw [← hlen] at hok
    obtain ⟨ls, f1, f2, f3⟩ := fieldsIn (P := P) (c := c) ih fs.toList 0 xs (fun f hf => by have := List.all_eq_true.1 hok.1 f hf; simpa using this) hok.2 h1
    have hl := (mapM_get h1).1
    rw [List.drop_zero] at f2
    exact ⟨ls.flatten, by simp only [dT, hu]; rw [if_pos (by rw [List.length_map, hl]), f1]; rfl, f2, f3, by rw [RepL_len f2, hlen]⟩
   ·cases h
  all_goals first | (exfalso; rename_i hu; simp [hu] at hok; done) | (simp at h; done)
end
end Go.TM
namespace Go.TM
open Go Go.RowKit
section
variable {H : Type} {P : Program} {n t e : Nat} {d : DataW H} {xs : List T}
theorem dT_bool (hu : P.underlying t = some .bool) (h : dT P n t d = some xs) : ∃ b, xs = [.sc (.bool b)] := by
 cases n with
 | zero => cases h
 | succ n =>
  simp only [dT, hu] at h
  cases d with
  | lit l =>
   cases l with
   | bool b => simp only [Option.some.injEq] at h; exact ⟨b, h.symm⟩
   | _ => cases h
  | _ => cases h
theorem dT_int {k : IntKind} (hu : P.underlying t = some (.int k)) (h : dT P n t d = some xs) : ∃ m, xs = [.sc (.int k m)] ∧ k.min ≤ m ∧ m ≤ k.max := by
 cases n with
 | zero => cases h
 | succ n =>
  simp only [dT, hu] at h
  cases d with
  | lit l =>
   cases l with
   | int k' m =>
    simp only [] at h
    split at h
    ·rename_i hk
     simp only [Option.some.injEq] at h
     have h2 : (decide (k.min ≤ m) && decide (m ≤ k.max)) = true := hk.2
     rw [Bool.and_eq_true, decide_eq_true_eq, decide_eq_true_eq] at h2
     exact ⟨m, h.symm, h2.1, h2.2⟩
    ·cases h
   | _ => cases h
  | _ => cases h
theorem dT_str (hu : P.underlying t = some .string) (h : dT P n t d = some xs) : ∃ s, xs = [.sc (str s)] ∧ d = .lit (.string s) := by
 cases n with
 | zero => cases h
 | succ n =>
  simp only [dT, hu] at h
  cases d with
  | lit l =>
   cases l with
   | string s => simp only [Option.some.injEq] at h; exact ⟨s, h.symm, rfl⟩
   | _ => cases h
  | _ => cases h
theorem dT_slice (hu : P.underlying t = some (.slice e)) (h : dT P n t d = some xs) : ∃ m es, n = m + 1 ∧ xs = [.lst (P.cellsOf e) es] ∧
  ((d = .nil ∧ es = []) ∨ ∃ elems rest, d = .slice elems rest ∧ elems.mapM (fun x => (dT P m e x).map (wrapT P e)) = some es) := by
 cases n with
 | zero => cases h
 | succ n =>
  simp only [dT, hu] at h
  cases d with
  | nil => simp only [Option.some.injEq] at h; exact ⟨n, [], rfl, h.symm, .inl ⟨rfl, rfl⟩⟩
  | slice elems rest =>
   simp only [Option.map_eq_some_iff] at h
   obtain ⟨es, h1, h2⟩ := h
   exact ⟨n, es, rfl, h2.symm, .inr ⟨elems, rest, rfl, h1⟩⟩
  | _ => cases h
theorem dT_struct {fs : Array Field} (hu : P.underlying t = some (.struct fs)) (h : dT P n t d = some xs) : ∃ m parts ls, n = m + 1 ∧ d = .agg parts ∧ fs.toList.length = parts.length ∧
  ((fs.toList.zip parts).mapM fun p => dT P m p.1.type p.2) = some ls ∧ xs = ls.flatten := by
 cases n with
 | zero => cases h
 | succ n =>
  simp only [dT, hu] at h
  cases d with
  | agg parts =>
   simp only [] at h
   split at h
   ·rename_i hl
    simp only [Option.map_eq_some_iff] at h
    obtain ⟨ls, h1, h2⟩ := h
    exact ⟨n, parts, ls, rfl, rfl, hl, h1, h2.symm⟩
   ·cases h
  | _ => cases h
end
theorem dT_mono {H : Type} {P : Program} : ∀ {n m t : Nat} {d : DataW H} {xs : List T}, n ≤ m → dT P n t d = some xs → dT P m t d = some xs
 | 0, m, t, d, xs, _, h => by cases h
 | n + 1, 0, t, d, xs, hm, h => by omega
 | n + 1, m + 1, t, d, xs, hm, h => by
  have ih : ∀ {t : Nat} {d : DataW H} {xs : List T}, dT P n t d = some xs → dT P m t d = some xs := fun h => dT_mono (by omega) h
  have hM : ∀ {α : Type} (f g : α → Option (List T)) (hfg : ∀ a xs, f a = some xs → g a = some xs) (l : List α) (r : List (List T)), l.mapM f = some r → l.mapM g = some r := by
   intro α f g hfg l
   induction l with
   | nil => intro r h; exact h
   | cons a l hl => intro r h; obtain ⟨y, ys, h1, h2, rfl⟩ := mapM_cons'.1 h; exact mapM_cons'.2 ⟨y, ys, hfg _ _ h1, hl _ h2, rfl⟩
  have hM2 : ∀ {α : Type} (f g : α → Option T) (hfg : ∀ a xs, f a = some xs → g a = some xs) (l : List α) (r : List T), l.mapM f = some r → l.mapM g = some r := by
   intro α f g hfg l
   induction l with
   | nil => intro r h; exact h
   | cons a l hl => intro r h; obtain ⟨y, ys, h1, h2, rfl⟩ := mapM_cons'.1 h; exact mapM_cons'.2 ⟨y, ys, hfg _ _ h1, hl _ h2, rfl⟩
  unfold dT at h ⊢
  split at h
  all_goals first
   | (cases h; done)
   | skip
  all_goals simp_all
  all_goals first
   | done
   | (obtain ⟨a, h1, h2⟩ := h; exact ⟨a, hM2 _ _ (fun x y hx => by rw [Option.map_eq_some_iff] at hx ⊢; obtain ⟨z, h3, h4⟩ := hx; exact ⟨z, ih h3, h4⟩) _ _ h1, h2⟩)
   | (obtain ⟨h0, a, h1, h2⟩ := h; exact ⟨a, hM _ _ (fun x y hx => ih hx) _ _ h1, h2⟩)
end Go.TM
