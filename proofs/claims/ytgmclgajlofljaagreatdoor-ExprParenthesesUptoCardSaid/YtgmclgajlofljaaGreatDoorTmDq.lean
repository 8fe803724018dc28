/- Regions that may draw their order: where each pair of operations that meet in a slot or in the memory is bound to its order, every order comes to the same. -/
import Derived.Test.YtgmclgajlofljaaGreatDoorTmLo
set_option linter.all false
namespace Go.TM
open Go
def rdO : Operand → List Nat
 | .tmp t => [t]
 | _ => []
def rdQ : Option Operand → List Nat
 | some x => rdO x
 | none => []
def rdX : X → List Nat
 | .toU x | .ofU _ _ x | .usd x | .mv x | .not x | .neg x | .lenS x | .cv _ x | .i2s x | .len x | .capn x | .load _ _ x | .faddr _ x | .field _ _ _ x | .box _ x | .s2b x | .b2s x | .ext x _ | .nck x => rdO x
 | .pick a b c => rdO a ++ (rdO b ++ rdO c)
 | .peq _ x y | .apps _ x y | .ustr _ x y | .bin _ x y | .beq _ x y | .idxS x y | .mm _ x y | .store _ x y | .iaddr _ x y | .iaddrA _ _ x y | .aidx _ _ _ x y | .mk _ _ _ x y | .appz _ _ _ x y | .app _ _ x y | .cpy x y => rdO x ++ rdO y
 | .cutS x lo hi => rdO x ++ (rdQ lo ++ rdQ hi)
 | .slc _ x lo hi mx => rdO x ++ (rdQ lo ++ (rdQ hi ++ rdQ mx))
 | .bsl _ _ ps => ps.flatMap rdO
 | .bld _ _ ps => ps.flatMap fun p => rdO p.2
 | .alloc _ _ | .bad => []
 | .mkf _ cs => cs.flatMap rdO
 | .call f as => rdO f ++ as.flatMap rdO
def rdL (o : LOp) : List Nat := rdX o.x ++ (match o.g with | some (j, _) => [j] | none => [])
section
variable {call : CallF} {om : FuncId → List Nat} {L : Nat}
theorem ev_congr {s s' : Slots} : ∀ {x : Operand}, (∀ t ∈ rdO x, get s t = get s' t) → ev s x = ev s' x
 | .tmp t, h => by simp only [ev]; rw [h t (by simp [rdO])]
 | .const _, _ => rfl
 | .func _, _ => rfl
 | .global _, _ => rfl
theorem bndO_congr {s s' : Slots} {n : Nat} : ∀ {x : Option Operand}, (∀ t ∈ rdQ x, get s t = get s' t) → bndO s n x = bndO s' n x
 | none, _ => rfl
 | some x, h => by simp only [bndO]; rw [ev_congr h]
theorem evL_congr {s s' : Slots} : ∀ {xs : List Operand}, (∀ t ∈ xs.flatMap rdO, get s t = get s' t) → evL s xs = evL s' xs
 | [], _ => rfl
 | x :: xs, h => by
  simp only [evL]
  rw [ev_congr fun t ht => h t (by simp [ht]), evL_congr (xs := xs) fun t ht => h t (by simp only [List.flatMap_cons, List.mem_append]; exact .inr ht)]
theorem fillT_congr {s s' : Slots} {ps : List (Nat × Nat)} : ∀ {xs : List (Nat × Operand)} {z : List T}, (∀ t ∈ xs.flatMap (fun p => rdO p.2), get s t = get s' t) → fillT ps s z xs = fillT ps s' z xs
 | [], _, _ => rfl
 | (i, x) :: xs, z, h => by
  have ih := fun z => fillT_congr (ps := ps) (xs := xs) (z := z) fun t ht => h t (by simp only [List.flatMap_cons, List.mem_append]; exact .inr ht)
  simp only [fillT, ih]
  rw [ev_congr fun t ht => h t (by simp [ht])]
theorem evX_congr {s s' : Slots} {S : Store} {d : Option Nat} {x : X} (h : ∀ t ∈ rdX x, get s t = get s' t) : evX call om L d s S x = evX call om L d s' S x := by
 cases x <;> simp only [rdX, List.mem_append] at h <;> simp only [evX]
 case slc sz x lo hi mx =>
  rw [ev_congr fun t ht => h t (.inl ht)]
  cases ev s' x with
  | none => rfl
  | some u =>
   have e1 := fun n => bndO_congr (n := n) fun t ht => h t (.inr (.inl ht))
   have e2 := fun n => bndO_congr (n := n) fun t ht => h t (.inr (.inr (.inl ht)))
   have e3 := fun n => bndO_congr (n := n) fun t ht => h t (.inr (.inr (.inr ht)))
   have : slcR sz s S lo hi mx u = slcR sz s' S lo hi mx u := by
    unfold slcR cutT
    simp only [e1, e2, e3]
   simp only [this]
 case cutS => rw [ev_congr fun t ht => h t (.inl ht)]; split <;> (try rfl); simp only [cutSR, bndO_congr fun t ht => h t (.inr (.inl ht)), bndO_congr fun t ht => h t (.inr (.inr ht))]
 case bsl => rw [evL_congr h]
 case bld => rw [fillT_congr h]
 case mkf => rw [evL_congr h]
 case call => rw [ev_congr fun t ht => h t (.inl ht), evL_congr fun t ht => h t (.inr ht)]
 case pick => rw [ev_congr fun t ht => h t (.inl ht), ev_congr fun t ht => h t (.inr (.inl ht)), ev_congr fun t ht => h t (.inr (.inr ht))]
 all_goals first
  | (rw [ev_congr fun t ht => h t (.inl ht), ev_congr fun t ht => h t (.inr ht)]; done)
  | (rw [ev_congr h]; done)
  | rfl
def valX (call : CallF) (om : FuncId → List Nat) (L : Nat) (o : LOp) (s : Slots) (S : Store) : Option (T × Store) :=
 match o.g with
 | none => evX call om L o.d s S o.x
 | some (j, w) => match get s j with
  | .sc (.bool b) => if b = w then evX call om L o.d s S o.x else some (.tup [], S)
  | .tup [] => some (.tup [], S)
  | _ => none
theorem stepX_val {o : LOp} {s : Slots} {S : Store} {u : T} {S' : Store} (h : valX call om L o s S = some (u, S')) : stepX call om L o ⟨s, S⟩ = some ⟨putX s o.d u, S'⟩ := by
 unfold valX at h
 unfold stepX
 cases hg : o.g with
 | none => simp only [hg] at h; simp only [h]
 | some p =>
  obtain ⟨j, w⟩ := p
  simp only [hg] at h
  simp only []
  split at h
  ·rename_i b hb
   simp only [hb]
   split at h
   ·rename_i hbw
    subst hbw
    simp only [BEq.rfl, cond_true, h]
   ·rename_i hbw
    have : (b == w) = false := by simpa using hbw
    simp only [Option.some.injEq, Prod.mk.injEq] at h
    obtain ⟨rfl, rfl⟩ := h
    simp only [this, cond_false]
  ·rename_i hb
   simp only [hb]
   simp only [Option.some.injEq, Prod.mk.injEq] at h
   obtain ⟨rfl, rfl⟩ := h
   rfl
  ·cases h
theorem valX_congr {s s' : Slots} {S : Store} {o : LOp} (h : ∀ t ∈ rdL o, get s t = get s' t) : valX call om L o s S = valX call om L o s' S := by
 unfold valX
 have h1 : evX call om L o.d s S o.x = evX call om L o.d s' S o.x := evX_congr fun t ht => h t (by simp [rdL, ht])
 cases hg : o.g with
 | none => exact h1
 | some p =>
  obtain ⟨j, w⟩ := p
  simp only []
  rw [h j (by simp [rdL, hg]), h1]
structure LSet where
 has : Loc → Prop
instance : Membership Loc LSet := ⟨fun s p => s.has p⟩
open Classical in
noncomputable def over (ls : LSet) (S1 S : Store) : Store := fun l => if l ∈ ls then S1 l else S l
abbrev Foot := List Nat × List Nat
def locs (L : Nat) (ds : List Nat) : LSet := ⟨fun p => (p.1 = L ∧ p.2 ≠ 9999999 ∧ p.2 ∈ ds) ∨ (p.1 < L ∧ 9999999 ∈ ds)⟩
theorem in_locs {L : Nat} {ds : List Nat} {p : Loc} : p ∈ locs L ds ↔ (p.1 = L ∧ p.2 ≠ 9999999 ∧ p.2 ∈ ds) ∨ (p.1 < L ∧ 9999999 ∈ ds) := Iff.rfl
def keyL (L : Nat) (p : Loc) : Nat := if p.1 < L then 9999999 else p.2
def Local (call : CallF) (om : FuncId → List Nat) (L : Nat) (o : LOp) (f : Foot) (s : Slots) (S : Store) (u : T) (S1 : Store) : Prop :=
 ∀ X : Store, valX call om L o s (over (locs L f.1) S (trunc L X)) = some (u, over (locs L f.2) S1 (over (locs L f.1) S (trunc L X)))
open Classical in
noncomputable def qrun (call : CallF) (om : FuncId → List Nat) (L : Nat) : List LOp → List Foot → St → Option St
 | [], _, st => some st
 | o :: r, f :: fr, st => match valX call om L o st.s st.S with
  | some (u, S') => if (trunc L st.S = st.S ∧ trunc L S' = S') ∧ Local call om L o f st.s st.S u S' then qrun call om L r fr ⟨putX st.s o.d u, S'⟩ else none
  | none => none
 | _ :: _, [], _ => none
theorem qrun_run : ∀ (l : List LOp) (k : List Foot) {st fin : St}, qrun call om L l k st = some fin → evXs call om L l st = some fin
 | [], _, st, fin, h => h
 | o :: r, [], st, fin, h => by simp [qrun] at h
 | o :: r, k :: kr, st, fin, h => by
  simp only [qrun] at h
  split at h
  ·rename_i u S' hv
   split at h
   ·simp only [evXs]
    rw [show stepX call om L o st = _ from stepX_val (s := st.s) (S := st.S) hv]
    exact qrun_run r kr h
   ·cases h
  ·cases h
def StepQ (call : CallF) (om : FuncId → List Nat) (L : Nat) (l : List LOp) (k : List Foot) (q : Nat → St) : Prop := ∀ i o, l[i]? = some o → ∃ u S' f, k[i]? = some f ∧
   valX call om L o (q i).s (q i).S = some (u, S') ∧ q (i + 1) = ⟨putX (q i).s o.d u, S'⟩ ∧ trunc L (q i).S = (q i).S ∧ Local call om L o f (q i).s (q i).S u S'
theorem qrun_trace : ∀ (l : List LOp) (k : List Foot) {st fin : St}, qrun call om L l k st = some fin → ∃ q : Nat → St, q 0 = st ∧ q l.length = fin ∧ StepQ call om L l k q
 | [], _, st, fin, h => by
  simp only [qrun, Option.some.injEq] at h
  exact ⟨fun _ => st, rfl, h, fun i o hi => by simp at hi⟩
 | o :: r, [], st, fin, h => by simp [qrun] at h
 | o :: r, k :: kr, st, fin, h => by
  simp only [qrun] at h
  split at h
  ·rename_i u S' hv
   split at h
   ·rename_i hk
    obtain ⟨q, h0, hN, hs⟩ := qrun_trace r kr h
    refine ⟨fun i => match i with | 0 => st | i + 1 => q i, rfl, hN, fun i o' hi => ?_⟩
    cases i with
    | zero =>
     simp only [List.getElem?_cons_zero, Option.some.injEq] at hi
     subst hi
     exact ⟨u, S', k, rfl, hv, h0, hk.1.1, hk.2⟩
    | succ i =>
     simp only [List.getElem?_cons_succ] at hi
     simpa using hs i o' hi
   ·cases h
  ·cases h
end
inductive Bef (ops : Array Oper) : Nat → Nat → Prop
 | direct {j : Nat} {o : Oper} {e : Edge} (h : ops[j]? = some o) (he : e ∈ o.after) (hb : Region.binds .any e = true) : Bef ops j e.on
 | trans {j i : Nat} {o : Oper} {e : Edge} (h : ops[j]? = some o) (he : e ∈ o.after) (hb : Region.binds .any e = true) (hr : Bef ops e.on i) : Bef ops j i
theorem binds_any {md : Region.Mode} {e : Edge} (h : Region.binds .any e = true) : Region.binds md e = true := by
 unfold Region.binds at h ⊢
 split at h <;> simp_all
def maskOf (acc : List Nat) : List Edge → Nat
 | [] => 0
 | e :: r => (if Region.binds .any e then 2 ^ e.on ||| acc.getD e.on 0 else 0) ||| maskOf acc r
def masks : List Oper → List Nat → List Nat
 | [], acc => acc
 | o :: r, acc => masks r (acc ++ [maskOf acc o.after.toList])
theorem maskOf_bit (acc : List Nat) {i : Nat} : ∀ {l : List Edge}, (maskOf acc l).testBit i = true → ∃ e ∈ l, Region.binds .any e = true ∧ (e.on = i ∨ (acc.getD e.on 0).testBit i = true)
 | [], h => by simp [maskOf] at h
 | e :: r, h => by
  simp only [maskOf, Nat.testBit_or, Bool.or_eq_true] at h
  rcases h with h | h
  ·split at h
   ·rename_i hb
    simp only [Nat.testBit_or, Bool.or_eq_true, Nat.testBit_two_pow, decide_eq_true_eq] at h
    exact ⟨e, by simp, hb, h⟩
   ·simp at h
  ·obtain ⟨e', h1, h2⟩ := maskOf_bit acc h
   exact ⟨e', by simp [h1], h2⟩
theorem masks_sound {ops : Array Oper} : ∀ (l : List Oper) (acc : List Nat), (∀ j o, l[j]? = some o → ops[acc.length + j]? = some o) → (∀ j i, (acc.getD j 0).testBit i = true → Bef ops j i) →
  ∀ j i, ((masks l acc).getD j 0).testBit i = true → Bef ops j i
 | [], acc, hl, ha, j, i, h => ha j i h
 | o :: r, acc, hl, ha, j, i, h => by
  refine masks_sound r (acc ++ [maskOf acc o.after.toList]) (fun j o' hj => ?_) (fun j i hb => ?_) j i h
  ·have := hl (j + 1) o' (by simpa using hj)
   rw [List.length_append]
   simpa [Nat.add_assoc, Nat.add_comm 1 j] using this
  ·by_cases hj : j < acc.length
   ·refine ha j i ?_
    rw [List.getD_eq_getElem?_getD] at hb ⊢
    rwa [List.getElem?_append_left hj] at hb
   ·by_cases hj2 : j = acc.length
    ·subst hj2
     rw [List.getD_eq_getElem?_getD, List.getElem?_append_right (Nat.le_refl _)] at hb
     simp only [Nat.sub_self, List.getElem?_cons_zero, Option.getD_some] at hb
     obtain ⟨e, he, hbd, hx⟩ := maskOf_bit acc hb
     have ho := hl 0 o rfl
     rcases hx with rfl | hx
     ·exact .direct ho (by simpa using he) hbd
     ·exact .trans ho (by simpa using he) hbd (ha _ _ hx)
    ·rw [List.getD_eq_getElem?_getD, List.getElem?_eq_none (by simp; omega)] at hb
     simp at hb
def meet (f g : Foot) (a b : LOp) : Bool :=
 (match a.d with | some d => (rdL b).contains d || b.d == some d | none => false) || (match b.d with | some d => (rdL a).contains d | none => false) ||
 f.2.any (fun d => g.1.contains d || g.2.contains d) || g.2.any (fun d => f.1.contains d)
def pairs1 (b : LOp) (g : Foot) (mj : Nat) : List (LOp × Foot) → Nat → Nat → Bool
 | _, _, 0 => true
 | [], _, _ + 1 => false
 | (a, f) :: r, i, n + 1 => (!meet f g a b || mj.testBit i) && pairs1 b g mj r (i + 1) n
def pairs2 (all : List (LOp × Foot)) : List Nat → List (LOp × Foot) → Nat → Bool
 | _, [], _ => true
 | [], _ :: _, _ => false
 | mj :: ms, (b, g) :: r, j => pairs1 b g mj all 0 j && pairs2 all ms r (j + 1)
def pairsOk (m : List Nat) (k : List Foot) (l : List LOp) : Bool := (k.length == l.length) && pairs2 (l.zip k) m (l.zip k) 0
theorem pairs1_get {b : LOp} {g : Foot} {mj : Nat} : ∀ {l : List (LOp × Foot)} {i0 n : Nat}, pairs1 b g mj l i0 n = true → ∀ i, i < n → ∃ a f, l[i]? = some (a, f) ∧ (meet f g a b = true → mj.testBit (i0 + i) = true)
 | _, _, 0, _, i, hi => by omega
 | [], _, _ + 1, h, _, _ => by simp [pairs1] at h
 | (a, f) :: r, i0, n + 1, h, i, hi => by
  simp only [pairs1, Bool.and_eq_true, Bool.or_eq_true, Bool.not_eq_true'] at h
  cases i with
  | zero => exact ⟨a, f, rfl, fun hm => h.1.elim (fun h1 => absurd hm (by rw [h1]; decide)) id⟩
  | succ i =>
   obtain ⟨a', f', h1, h2⟩ := pairs1_get h.2 i (by omega)
   exact ⟨a', f', by simpa using h1, fun hm => by have := h2 hm; rwa [show i0 + (i + 1) = i0 + 1 + i from by omega]⟩
theorem pairs2_get {all : List (LOp × Foot)} : ∀ {ms : List Nat} {l : List (LOp × Foot)} {j0 : Nat}, pairs2 all ms l j0 = true → ∀ j b g, l[j]? = some (b, g) → pairs1 b g (ms.getD j 0) all 0 (j0 + j) = true
 | _, [], _, _, j, b, g, hj => by simp at hj
 | [], _ :: _, _, h, _, _, _, _ => by simp [pairs2] at h
 | mj :: ms, (b0, g0) :: r, j0, h, j, b, g, hj => by
  simp only [pairs2, Bool.and_eq_true] at h
  cases j with
  | zero =>
   simp only [List.getElem?_cons_zero, Option.some.injEq, Prod.mk.injEq] at hj
   obtain ⟨rfl, rfl⟩ := hj
   simpa using h.1
  | succ j =>
   have := pairs2_get h.2 j b g (by simpa using hj)
   rw [show j0 + (j + 1) = j0 + 1 + j from by omega]
   simpa using this
def rankF (md : Region.Mode) (ops : Array Oper) (p : Nat → Nat) : Bool :=
 (List.range ops.size).all fun j => match ops[j]? with
  | some o => o.after.toList.all fun e => !Region.binds md e || (decide (e.on < ops.size) && decide (p e.on < p j))
  | none => false
def backOk : List Oper → Nat → Bool
 | [], _ => true
 | o :: r, j => (o.after.toList.all fun e => Nat.blt e.on j) && backOk r (j + 1)
theorem backOk_get : ∀ {l : List Oper} {j0 : Nat}, backOk l j0 = true → ∀ j o, l[j]? = some o → ∀ e ∈ o.after.toList, e.on < j0 + j
 | [], _, _, j, o, hj => by simp at hj
 | o' :: r, j0, h, j, o, hj => by
  simp only [backOk, Bool.and_eq_true] at h
  cases j with
  | zero =>
   simp only [List.getElem?_cons_zero, Option.some.injEq] at hj
   subst hj
   intro e he
   have := List.all_eq_true.1 h.1 e he
   rw [Nat.blt_eq] at this
   simpa using this
  | succ j =>
   intro e he
   have := backOk_get h.2 j o (by simpa using hj) e he
   omega
theorem back_rank {ops : Array Oper} (h : backOk ops.toList 0 = true) (md : Region.Mode) : rankF md ops id = true := by
 unfold rankF
 rw [List.all_eq_true]
 intro j hj
 have hj' : j < ops.size := by simpa using hj
 have ho : ops[j]? = some ops[j] := by simp [hj']
 rw [ho]
 rw [List.all_eq_true]
 intro e he
 have := backOk_get h j ops[j] (by simpa using ho) e he
 simp only [Bool.or_eq_true, Bool.and_eq_true, decide_eq_true_eq, id]
 exact .inr ⟨by omega, by omega⟩
def drawChk (ops : Array Oper) (l : List LOp) (k : List Foot) : Bool :=
 Region.noSelect ops && (ops.size == l.length) && pairsOk (masks ops.toList []) k l &&
 (backOk ops.toList 0 || (rankF .text ops (Region.linearise .text ops 0).idxOf && rankF .gc ops (Region.linearise .gc ops 0).idxOf && rankF .any ops (Region.linearise .any ops 0).idxOf))
section
variable {P : Program} {call : CallF} {om : FuncId → List Nat} {L n : Nat}
def isL (listed : Array Bool) (i : Nat) : Prop := listed.getD i false = true
theorem isL_set {listed : Array Bool} {j i : Nat} (hj : j < listed.size) : isL (listed.setIfInBounds j true) i ↔ i = j ∨ isL listed i := by
 unfold isL
 rw [Array.getD_eq_getD_getElem?, Array.getD_eq_getD_getElem?, Array.getElem?_setIfInBounds]
 by_cases h : j = i
 ·subst h; simp [hj]
 ·simp [h, Ne.symm h]
theorem get_put (s : Slots) (d : Option Nat) (u : T) (t : Nat) : get (putX s d u) t = if d = some t then u else get s t := by
 cases d with
 | none => simp [putX]
 | some d =>
  simp only [putX, get_cons, Option.some.injEq]
  by_cases h : t = d
  ·subst h; simp
  ·simp [h, Ne.symm h]
theorem not_ready_nil {md : Region.Mode} {ops : Array Oper} {rk : Nat → Nat} (hr : rankF md ops rk = true) {listed : Array Bool} (hsz : listed.size = ops.size) (hn : Region.ready md ops listed = []) : ∀ i, i < ops.size → isL listed i := by
 have key : ∀ (r i : Nat), rk i < r → i < ops.size → isL listed i := by
  intro r
  induction r with
  | zero => intro i h; omega
  | succ r ih =>
   intro i hi hlt
   unfold rankF at hr
   rw [List.all_eq_true] at hr
   have h1 := hr i (by simpa using hlt)
   have ho : ops[i]? = some ops[i] := by simp [hlt]
   rw [ho] at h1
   simp only [List.all_eq_true, Bool.or_eq_true, Bool.not_eq_true', Bool.and_eq_true, decide_eq_true_eq] at h1
   unfold isL
   cases hl : listed.getD i false with
   | true => rfl
   | false =>
    exfalso
    have hmem : i ∈ Region.ready md ops listed := by
     unfold Region.ready
     rw [List.mem_filter]
     refine ⟨by simpa using hlt, ?_⟩
     have hlt' : listed.getD i true = false := by
      rw [Array.getD_eq_getD_getElem?] at hl ⊢
      have : i < listed.size := by omega
      simpa [this] using hl
     simp only [ho, Option.map_some, Option.getD_some, Bool.and_eq_true, Bool.not_eq_true', hlt', true_and]
     rw [Array.all_eq_true_iff_forall_mem]
     intro e he
     rcases h1 e (by simpa using he) with hb | ⟨h2, h3⟩
     ·simp [hb]
     ·have := ih e.on (by omega) h2
      unfold isL at this
      simp [this]
    rw [hn] at hmem
    cases hmem
 exact fun i => key _ i (Nat.lt_succ_self _)
theorem mem_ready {md : Region.Mode} {ops : Array Oper} {listed : Array Bool} {j : Nat} (h : j ∈ Region.ready md ops listed) :
  j < ops.size ∧ listed.getD j true = false ∧ ∃ o, ops[j]? = some o ∧ ∀ e ∈ o.after, Region.binds md e = true → isL listed e.on := by
 unfold Region.ready at h
 rw [List.mem_filter] at h
 obtain ⟨h1, h2⟩ := h
 have hj : j < ops.size := by simpa using h1
 have ho : ops[j]? = some ops[j] := by simp [hj]
 simp only [ho, Option.map_some, Option.getD_some, Bool.and_eq_true, Bool.not_eq_true'] at h2
 refine ⟨hj, h2.1, _, ho, fun e he hb => ?_⟩
 have := (Array.all_eq_true_iff_forall_mem.1 h2.2) e he
 simpa [hb, isL] using this
structure Far (L : Nat) (md : Region.Mode) (ops : Array Oper) (l : List LOp) (k : List Foot) (q : Nat → St) (listed : Array Bool) (st : St) : Prop where
 size : listed.size = ops.size
 down : ∀ j o e, isL listed j → ops[j]? = some o → e ∈ o.after → Region.binds md e = true → isL listed e.on
 slot : ∀ t m, m ≤ l.length → (∀ i o, l[i]? = some o → o.d = some t → (isL listed i ↔ i < m)) → get st.s t = get (q m).s t
 mem : ∀ p m, m ≤ l.length → (∀ i f, i < l.length → k[i]? = some f → p ∈ locs L f.2 → (isL listed i ↔ i < m)) → st.S p = (q m).S p
theorem Far.bef {md : Region.Mode} {ops : Array Oper} {l : List LOp} {k : List Foot} {q : Nat → St} {listed : Array Bool} {st : St} (h : Far L md ops l k q listed st) {j i : Nat} (hb : Bef ops j i) : isL listed j → isL listed i := by
 induction hb with
 | direct ho he hbd => exact fun hj => h.down _ _ _ hj ho he (binds_any hbd)
 | trans ho he hbd hr ih => exact fun hj => ih (h.down _ _ _ hj ho he (binds_any hbd))
theorem Far.befReady {md : Region.Mode} {ops : Array Oper} {l : List LOp} {k : List Foot} {q : Nat → St} {listed : Array Bool} {st : St} (h : Far L md ops l k q listed st) {j i : Nat} (hj : j ∈ Region.ready md ops listed) (hb : Bef ops j i) : isL listed i := by
 obtain ⟨_, _, o, ho, hr⟩ := mem_ready hj
 cases hb with
 | direct ho' he hbd => rw [ho] at ho'; cases ho'; exact hr _ he (binds_any hbd)
 | trans ho' he hbd hr' => rw [ho] at ho'; cases ho'; exact h.bef hr' (hr _ he (binds_any hbd))
theorem frame_slot {l : List LOp} {k : List Foot} {q : Nat → St} (hs : StepQ call om L l k q)
  {t a : Nat} : ∀ (m : Nat), a + m ≤ l.length → (∀ i o, a ≤ i → i < a + m → l[i]? = some o → o.d ≠ some t) → get (q (a + m)).s t = get (q a).s t
 | 0, _, _ => rfl
 | m + 1, hm, hw => by
  have hlt : a + m < l.length := by omega
  obtain ⟨u, S', f, _, _, h2, _⟩ := hs (a + m) l[a + m] (by simp [hlt])
  rw [show a + (m + 1) = a + m + 1 by omega, h2]
  show get (putX _ _ u) t = _
  rw [get_put, if_neg (hw (a + m) _ (by omega) (by omega) (by simp [hlt]))]
  exact frame_slot hs m (by omega) fun i o h1 h2 h3 => hw i o h1 (by omega) h3
theorem Local.off {o : LOp} {f : Foot} {s : Slots} {S : Store} {u : T} {S1 : Store} (ht : trunc L S = S) (h : Local call om L o f s S u S1) (hv : valX call om L o s S = some (u, S1)) {p : Loc} (hp : p ∉ locs L f.2) : S1 p = S p := by
 have := h S
 have e : over (locs L f.1) S S = S := by funext l; unfold over; split <;> rfl
 rw [ht, e, hv] at this
 simp only [Option.some.injEq, Prod.mk.injEq, true_and] at this
 rw [this]
 simp [over, hp]
theorem frame_mem {l : List LOp} {k : List Foot} {q : Nat → St} (hs : StepQ call om L l k q)
  {p : Loc} {a : Nat} : ∀ (m : Nat), a + m ≤ l.length → (∀ i f, a ≤ i → i < a + m → k[i]? = some f → p ∉ locs L f.2) → (q (a + m)).S p = (q a).S p
 | 0, _, _ => rfl
 | m + 1, hm, hw => by
  have hlt : a + m < l.length := by omega
  obtain ⟨u, S', f, hf, h1, h2, ht, h3⟩ := hs (a + m) l[a + m] (by simp [hlt])
  rw [show a + (m + 1) = a + m + 1 by omega, h2]
  show S' p = _
  rw [h3.off ht h1 (hw (a + m) f (by omega) (by omega) hf)]
  exact frame_mem hs m (by omega) fun i f h1 h2 => hw i f h1 (by omega)
theorem filter_lt {α : Type} {p p' : α → Bool} (himp : ∀ x, p' x = true → p x = true) {j : α} (hj : p j = true) (hj' : p' j = false) : ∀ (l : List α), j ∈ l → (l.filter p').length < (l.filter p).length
 | [], h => by cases h
 | x :: xs, h => by
  have mono : ∀ l : List α, (l.filter p').length ≤ (l.filter p).length := by
   intro l
   induction l with
   | nil => simp
   | cons y ys ih =>
    simp only [List.filter_cons]
    cases h1 : p' y with
    | true => simp [himp y h1]; exact ih
    | false => cases p y <;> simp <;> omega
  by_cases e : x = j
  ·subst e
   simp only [List.filter_cons, hj, hj', if_true]
   have := mono xs
   simp; omega
  ·have hm : j ∈ xs := by simpa [Ne.symm e] using h
   have ih := filter_lt himp hj hj' xs hm
   simp only [List.filter_cons]
   cases h1 : p' x with
   | true => simp [himp x h1]; exact ih
   | false => cases p x <;> simp <;> omega
theorem pairs_bef {ops : Array Oper} {l : List LOp} {k : List Foot} (h : pairsOk (masks ops.toList []) k l = true) {i j : Nat} {a b : LOp} {f g : Foot} (hij : i < j) (ha : l[i]? = some a) (hb : l[j]? = some b) (hf : k[i]? = some f) (hg : k[j]? = some g) (hm : meet f g a b = true) : Bef ops j i := by
 unfold pairsOk at h
 rw [Bool.and_eq_true] at h
 have hz : ∀ (i : Nat) (a : LOp) (f : Foot), l[i]? = some a → k[i]? = some f → (l.zip k)[i]? = some (a, f) := by
  intro i a f h1 h2
  rw [List.getElem?_zip_eq_some]; exact ⟨h1, h2⟩
 have h1 := pairs2_get h.2 j b g (hz j b g hb hg)
 obtain ⟨a', f', h2, h3⟩ := pairs1_get h1 i (by omega)
 rw [hz i a f ha hf] at h2
 simp only [Option.some.injEq, Prod.mk.injEq] at h2
 obtain ⟨rfl, rfl⟩ := h2
 have h4 := h3 hm
 rw [Nat.zero_add] at h4
 exact masks_sound ops.toList [] (fun j o hj => by simpa using hj) (fun j i h => by simp at h) j i h4
theorem mem_locs {ds : List Nat} {p : Loc} (h : p ∈ locs L ds) : ∃ d, keyL L p = d ∧ ds.contains d = true ∧ p.1 ≤ L := by
 rcases in_locs.1 h with ⟨h1, _, h2⟩ | ⟨h1, h2⟩
 ·exact ⟨p.2, by unfold keyL; rw [if_neg (by omega)], by simpa using h2, by omega⟩
 ·exact ⟨9999999, by unfold keyL; rw [if_pos h1], by simpa using h2, by omega⟩
theorem any_of {ds : List Nat} {p : Nat → Bool} {d : Nat} (h : ds.contains d = true) (hp : p d = true) : ds.any p = true := by
 rw [List.any_eq_true]; exact ⟨d, by simpa using h, hp⟩
theorem far_any {md : Region.Mode} {ops : Array Oper} {l : List LOp} {k : List Foot} {q : Nat → St} (hl : toLs P n ops ops.toList = some l) (hsz : ops.size = l.length) (hp : pairsOk (masks ops.toList []) k l = true) {rk : Nat → Nat} (hr : rankF md ops rk = true)
  (hs : StepQ call om L l k q) :
  ∀ (fuel : Nat) (listed : Array Bool) (st : St), Far L md ops l k q listed st → ((List.range ops.size).filter fun i => !listed.getD i false).length ≤ fuel → anyOk P call om L n md ops (q l.length) fuel listed st := by
 have done : ∀ listed st, Far L md ops l k q listed st → (∀ i, i < ops.size → isL listed i) → Region.ready md ops listed = [] ∧ stEq st (q l.length) := fun listed st hf hall => by
  have hlen : ∀ i o, l[i]? = some o → i < l.length := fun i o hi => by
   rcases Nat.lt_or_ge i l.length with h | h
   ·exact h
   ·rw [List.getElem?_eq_none h] at hi; cases hi
  refine ⟨?_, funext fun p => hf.mem p _ (Nat.le_refl _) fun i f hi _ _ => ⟨fun _ => hi, fun h => hall i (by omega)⟩, fun t => hf.slot t _ (Nat.le_refl _) fun i o ho _ => ⟨fun _ => hlen i o ho, fun h => hall i (by omega)⟩⟩
  cases hrd : Region.ready md ops listed with
  | nil => rfl
  | cons x xs =>
   have hx : x ∈ Region.ready md ops listed := by rw [hrd]; simp
   obtain ⟨h1, h2, _⟩ := mem_ready hx
   have := hall x h1
   unfold isL at this
   have hlt : x < listed.size := by rw [hf.size]; exact h1
   simp only [Array.getD_eq_getD_getElem?, Array.getElem?_eq_getElem hlt, Option.getD_some] at this h2
   rw [this] at h2; cases h2
 intro fuel
 induction fuel with
 | zero =>
  intro listed st hf hc
  refine done listed st hf fun i hi => ?_
  have : (List.range ops.size).filter (fun i => !listed.getD i false) = [] := List.eq_nil_of_length_eq_zero (by omega)
  rw [List.filter_eq_nil_iff] at this
  have := this i (by simpa using hi)
  simpa [isL] using this
 | succ fuel ih =>
  intro listed st hf hc
  by_cases hn : Region.ready md ops listed = []
  ·exact .inl (done listed st hf (not_ready_nil hr hf.size hn))
  ·refine .inr (.inr ⟨hn, fun j hj => ?_⟩)
   obtain ⟨hjN, hjn, o, ho, hre⟩ := mem_ready hj
   have hjl : j < l.length := by omega
   have hlj : l[j]? = some l[j] := by simp [hjl]
   have hnl : ¬ isL listed j := by
    unfold isL
    have hlt : j < listed.size := by rw [hf.size]; exact hjN
    simp only [Array.getD_eq_getD_getElem?, Array.getElem?_eq_getElem hlt, Option.getD_some] at hjn ⊢
    rw [hjn]; simp
   have seg : ∀ i a f g, l[i]? = some a → k[i]? = some f → k[j]? = some g → i ≠ j → (i < j → meet f g a l[j] = true) → (j < i → meet g f l[j] a = true) → (isL listed i ↔ i < j) := by
    intro i a f g ha hfi hgj hne h1 h2
    rcases Nat.lt_or_gt_of_ne hne with hlt | hgt
    ·exact ⟨fun _ => hlt, fun _ => hf.befReady hj (pairs_bef hp hlt ha hlj hfi hgj (h1 hlt))⟩
    ·exact ⟨fun hi => absurd (hf.bef (pairs_bef hp hgt hlj ha hgj hfi (h2 hgt)) hi) hnl, fun h => by omega⟩
   obtain ⟨u, S', fj, hfj, hv, hq, htr, hloc⟩ := hs j l[j] hlj
   have hslots : ∀ t ∈ rdL l[j], get st.s t = get (q j).s t := by
    intro t ht
    refine hf.slot t j (by omega) fun i a ha hd => ?_
    by_cases hne : i = j
    ·subst hne; exact ⟨fun h => absurd h hnl, fun h => by omega⟩
    ·obtain ⟨_, _, fi, hfi, _⟩ := hs i a ha
     refine seg i a fi fj ha hfi hfj hne (fun _ => ?_) (fun _ => ?_)
     ·simp [meet, hd, ht]
     ·have : (rdL l[j]).contains t = true := by simpa using ht
      simp only [meet, hd, this]
      simp
   have hmem : ∀ p ∈ locs L fj.1, st.S p = (q j).S p := by
    intro p hpj
    obtain ⟨d, hk, hd, _⟩ := mem_locs hpj
    refine hf.mem _ j (by omega) fun i f hi hfi hpi => ?_
    obtain ⟨d', he, hd', _⟩ := mem_locs hpi
    have : d' = d := by rw [← hk, ← he]
    subst this
    by_cases hne : i = j
    ·subst hne; exact ⟨fun h => absurd h hnl, fun h => by omega⟩
    ·refine seg i l[i] f fj (by simp [hi]) hfi hfj hne (fun _ => ?_) (fun _ => ?_)
     ·have := any_of (p := fun d => fj.1.contains d || fj.2.contains d) hd' (by simp only [hd, Bool.true_or])
      simp only [meet, this, Bool.or_true, Bool.true_or]
     ·have := any_of (p := fun d => fj.1.contains d) hd' hd
      simp only [meet, this, Bool.or_true]
   have hval : valX call om L l[j] st.s st.S = some (u, over (locs L fj.2) S' st.S) := by
    rw [valX_congr hslots]
    have e : over (locs L fj.1) (q j).S (trunc L st.S) = st.S := by
     funext p; unfold over; split
     ·rename_i h; exact (hmem p h).symm
     ·unfold trunc
      by_cases hp : p.1 ≤ L
      ·rw [if_pos hp]
      ·rw [if_neg hp]
       have h1 : st.S p = (q j).S p := hf.mem p j (by omega) fun i f _ _ hpi => by
        obtain ⟨_, _, _, hle⟩ := mem_locs hpi
        exact absurd hle hp
       rw [h1, ← htr]
       unfold trunc
       rw [if_neg hp]
    have := hloc st.S
    rw [e] at this
    exact this
   obtain ⟨o', ho', hlo⟩ := toLs_get _ hl hlj
   refine ⟨_, toL_sound (by simpa using ho') hlo (stepX_val (s := st.s) (S := st.S) hval), ih _ _ ?_ ?_⟩
   ·have hjs : j < listed.size := by rw [hf.size]; exact hjN
    refine ⟨by simp [hf.size], fun i o1 e hi ho1 he hb => ?_, fun t m hm hseg => ?_, fun p m hm hseg => ?_⟩
    ·rw [isL_set hjs] at hi ⊢
     rcases hi with rfl | hi
     ·rw [ho] at ho1; cases ho1
      exact .inr (hre e he hb)
     ·exact .inr (hf.down i o1 e hi ho1 he hb)
    ·show get (putX st.s l[j].d u) t = _
     rw [get_put]
     by_cases hd : l[j].d = some t
     ·rw [if_pos hd]
      have hjm : j < m := (hseg j _ hlj hd).1 ((isL_set hjs).2 (.inl rfl))
      have := frame_slot hs (t := t) (a := j + 1) (m - (j + 1)) (by omega) fun i a h1 h2 ha hda => by
       have hi : isL listed i := by
        have := (isL_set hjs).1 ((hseg i a ha hda).2 (by omega))
        rcases this with rfl | h
        ·omega
        ·exact h
       obtain ⟨_, _, fi, hfi, _⟩ := hs i a ha
       refine hnl (hf.bef (pairs_bef hp (by omega) hlj ha hfj hfi ?_) hi)
       simp [meet, hd, hda]
      rw [show j + 1 + (m - (j + 1)) = m by omega] at this
      rw [this, hq]
      show u = get (putX _ _ u) t
      rw [get_put, if_pos hd]
     ·rw [if_neg hd]
      refine hf.slot t m hm fun i a ha hda => ?_
      rw [← hseg i a ha hda, isL_set hjs]
      have : i ≠ j := by intro e; subst e; rw [hlj] at ha; cases ha; exact hd hda
      simp [this]
    ·show over (locs L fj.2) S' st.S p = _
     unfold over
     by_cases hpj : p ∈ locs L fj.2
     ·rw [if_pos hpj]
      have hjm : j < m := (hseg j fj hjl hfj hpj).1 ((isL_set hjs).2 (.inl rfl))
      have := frame_mem hs (p := p) (a := j + 1) (m - (j + 1)) (by omega) fun i f h1 h2 hfi hpi => by
       have hil : i < l.length := by omega
       have hi : isL listed i := by
        have := (isL_set hjs).1 ((hseg i f hil hfi hpi).2 (by omega))
        rcases this with rfl | h
        ·omega
        ·exact h
       refine hnl (hf.bef (pairs_bef (b := l[i]) hp (by omega) hlj (by simp [hil]) hfj hfi ?_) hi)
       obtain ⟨d, he, hd, _⟩ := mem_locs hpj
       obtain ⟨d', he', hd', _⟩ := mem_locs hpi
       have : d' = d := by rw [← he, ← he']
       subst this
       have := any_of (p := fun d => f.1.contains d || f.2.contains d) hd (by simp only [hd', Bool.or_true])
       simp only [meet, this, Bool.or_true, Bool.true_or]
      rw [show j + 1 + (m - (j + 1)) = m by omega] at this
      rw [this, hq]
     ·rw [if_neg hpj]
      refine hf.mem p m hm fun i f hi hfi hpi => ?_
      rw [← hseg i f hi hfi hpi, isL_set hjs]
      have : i ≠ j := by intro e; subst e; rw [hfj] at hfi; cases hfi; exact hpj hpi
      simp [this]
   ·have hjs : j < listed.size := by rw [hf.size]; exact hjN
    have := filter_lt (p := fun i => !listed.getD i false) (p' := fun i => !(listed.setIfInBounds j true).getD i false) (j := j) (fun x hx => by
     simp only [Bool.not_eq_true', ] at hx ⊢
     cases hh : listed.getD x false with
     | false => rfl
     | true =>
      have := (isL_set hjs (i := x)).2 (.inr hh)
      unfold isL at this
      rw [this] at hx; cases hx) (by
     simp only [Bool.not_eq_true']
     cases hh : listed.getD j false with
     | false => rfl
     | true => exact absurd hh hnl) (by
     have := (isL_set hjs (i := j)).2 (.inl rfl)
     unfold isL at this
     simp [this]) (List.range ops.size) (by simpa using hjN)
    omega
theorem far_start {md : Region.Mode} {ops : Array Oper} {l : List LOp} {k : List Foot} {q : Nat → St} (hs : StepQ call om L l k q) :
  Far L md ops l k q (Array.replicate ops.size false) (q 0) := by
 have no : ∀ i, ¬ isL (Array.replicate ops.size false) i := by
  intro i
  unfold isL
  rw [Array.getD_eq_getD_getElem?, Array.getElem?_replicate]
  split <;> simp
 refine ⟨by simp, fun j o e hj => absurd hj (no j), fun t m hm hseg => ?_, fun p m hm hseg => ?_⟩
 ·have := frame_slot hs (t := t) (a := 0) m (by omega) fun i a _ h2 ha hd => no i ((hseg i a ha hd).2 (by omega))
  rw [Nat.zero_add] at this
  exact this.symm
 ·have := frame_mem hs (p := p) (a := 0) m (by omega) fun i f _ h2 hk hpi => no i ((hseg i f (by omega) hk hpi).2 (by omega))
  rw [Nat.zero_add] at this
  exact this.symm
theorem qrun_draw {ops : Array Oper} {l : List LOp} {k : List Foot} {st fin : St} (hl : toLs P n ops ops.toList = some l) (hc : drawChk ops l k = true) (hq : qrun call om L l k st = some fin) : drawOk P call om L n ops st fin := by
 unfold drawChk at hc
 simp only [Bool.and_eq_true, Bool.or_eq_true, beq_iff_eq] at hc
 obtain ⟨⟨⟨h1, h2⟩, h3⟩, hb⟩ := hc
 have h456 : ∃ p4 p5 p6, rankF .text ops p4 = true ∧ rankF .gc ops p5 = true ∧ rankF .any ops p6 = true := by
  rcases hb with hb | ⟨⟨h4, h5⟩, h6⟩
  ·exact ⟨id, id, id, back_rank hb _, back_rank hb _, back_rank hb _⟩
  ·exact ⟨_, _, _, h4, h5, h6⟩
 obtain ⟨p4, p5, p6, h4, h5, h6⟩ := h456
 obtain ⟨q, h0, hN, hs⟩ := qrun_trace l k hq
 refine ⟨h1, fun md => ?_⟩
 have hf := far_start (md := md) (ops := ops) hs
 rw [← h0, ← hN]
 have hcnt : ((List.range ops.size).filter fun i => !(Array.replicate ops.size false).getD i false).length ≤ ops.size := by
  refine Nat.le_trans (List.length_filter_le _ _) (by simp)
 cases md with
 | text => exact far_any hl h2 h3 h4 hs _ _ _ hf hcnt
 | gc => exact far_any hl h2 h3 h5 hs _ _ _ hf hcnt
 | any => exact far_any hl h2 h3 h6 hs _ _ _ hf hcnt
def footOf : Nat → List Nat → List Foot
 | 0, _ => []
 | _, [] => []
 | k + 1, n :: r => match r.drop n with
  | [] => []
  | m :: r' => (r.take n, r'.take m) :: footOf k (r'.drop m)
end
end Go.TM
