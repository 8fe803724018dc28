/- Whole code in the light form. -/
import Derived.Test.YtgmclgajlofljaaGreatDoorTmDq
set_option linter.all false
namespace Go.TM
open Go
inductive LC where
 | skip
 | ops (l : List LOp)
 | draw (l : List LOp) (all : Array Oper)
 | drq (l : List LOp) (k : List Foot)
 | seq (a b : LC)
 | cond (c : Operand) (a b : LC)
 | block (id : Nat) (c : LC)
 | loop (h : Head) (c : LC)
 | exit (h : Head) (id : Nat)
 | ret (h : Head)
def toLC (P : Program) (an : Nat → Head) (n : Nat) : Code → Option LC
 | .skip | .label _ => some .skip
 | .region id ops draw => match toLs P n ops ops.toList with
  | some l => some (bif draw then (bif drawChk ops l (footOf l.length (an (3 * id + 2)).kl) then .drq l (footOf l.length (an (3 * id + 2)).kl) else .draw l ops) else .ops l)
  | none => none
 | .seq a b => match toLC P an n a, toLC P an n b with
  | some x, some y => some (.seq x y)
  | _, _ => none
 | .cond c a b => match toLC P an n a, toLC P an n b with
  | some x, some y => some (.cond c x y)
  | _, _ => none
 | .block id c => (toLC P an n c).map (.block id)
 | .loop c => (toLC P an n c).map (.loop (an (3 * firstRegion c)))
 | .scope c => toLC P an n c
 | .exit id => some (.exit (an (3 * id + 1)) id)
 | .ret => some (.ret (an 3000002))
 | .refuse _ => some (.ops [⟨none, none, .bad⟩])
 | _ => none
open Classical in
noncomputable def evL' (P : Program) (call : CallF) (om : FuncId → List Nat) (L n : Nat) : LC → St → Option (Ex × St)
 | .skip, st => some (.nrm, st)
 | .ops l, st => match evXs call om L l st with
  | some st' => some (.nrm, st')
  | none => none
 | .draw l all, st => match evXs call om L l st with
  | some st' => if drawOk P call om L n all st st' then some (.nrm, st') else none
  | none => none
 | .drq l k, st => match qrun call om L l k st with
  | some st' => some (.nrm, st')
  | none => none
 | .seq a b, st => match evL' P call om L n a st with
  | some (.nrm, st') => evL' P call om L n b st'
  | r => r
 | .cond c x y, st => match ev st.s c with
  | some (.sc (.bool q)) => bif q then evL' P call om L n x st else evL' P call om L n y st
  | _ => none
 | .block id c, st => match evL' P call om L n c st with
  | some (.exit i, st') => if i = id then some (.nrm, st') else some (.exit i, st')
  | r => r
 | .loop h c, st => lim fun k => iter (fun st => evL' P call om L n c (headSt L h st)) k st
 | .exit h id, st => some (.exit id, leaveSt L h st)
 | .ret h, st => some (.ret, leaveSt L h st)
section
variable {P : Program} {call : CallF} {om : FuncId → List Nat} {L n : Nat}
theorem iter_mono {f g : St → Option (Ex × St)} (h : ∀ st x, f st = some x → g st = some x) : ∀ (k : Nat) (st : St) (x : Ex × St), iter f k st = some x → iter g k st = some x
 | 0, st, x, hi => by simp [iter] at hi
 | k + 1, st, x, hi => by
  simp only [iter] at hi ⊢
  split at hi
  ·rename_i st' h1
   rw [h _ _ h1]
   exact iter_mono h k st' x hi
  ·rename_i hne
   rw [h _ _ hi]
   obtain ⟨x1, x2⟩ := x
   cases x1 with
   | nrm => exact absurd hi (hne x2)
   | _ => rfl
theorem toLC_sound {an : Nat → Head} : ∀ (c : Code) {lc : LC}, toLC P an n c = some lc → ∀ {st : St} {x : Ex × St}, evL' P call om L n lc st = some x → evalC P call om an L n c st = some x
 | .skip, lc, h, st, x, hx => by
  simp only [toLC, Option.some.injEq] at h; subst h
  simpa only [evL', evalC] using hx
 | .label l, lc, h, st, x, hx => by
  simp only [toLC, Option.some.injEq] at h; subst h
  simpa only [evL', evalC] using hx
 | .region id ops d, lc, h, st, x, hx => by
  simp only [toLC] at h
  split at h
  ·rename_i l hl
   simp only [Option.some.injEq] at h
   have key : ∀ st', evXs call om L l st = some st' → evalOps P call om L n ops (List.range ops.size) st = some st' := fun st' hs => by
    have := toLs_sound (L := L) (call := call) (om := om) ops.toList 0 hl (fun j o hj => by simpa using hj) hs
    rw [← List.range_eq_range'] at this
    simpa using this
   cases d with
   | false =>
    simp only [cond_false] at h
    subst h
    simp only [evL'] at hx
    split at hx
    ·rename_i st' hs
     simp only [evalC, key st' hs, Option.map_some]
     exact hx
    ·cases hx
   | true =>
    simp only [cond_true] at h
    cases hc : drawChk ops l (footOf l.length (an (3 * id + 2)).kl) with
    | false =>
     simp only [hc, cond_false] at h
     subst h
     simp only [evL'] at hx
     split at hx
     ·rename_i st' hs
      simp only [evalC, key st' hs]
      exact hx
     ·cases hx
    | true =>
     simp only [hc, cond_true] at h
     subst h
     simp only [evL'] at hx
     split at hx
     ·rename_i st' hs
      simp only [evalC, key st' (qrun_run _ _ hs), if_pos (qrun_draw (n := n) hl hc hs)]
      exact hx
     ·cases hx
  ·cases h
 | .seq a b, lc, h, st, x, hx => by
  simp only [toLC] at h
  split at h
  ·rename_i y z hy hz
   simp only [Option.some.injEq] at h
   subst h
   simp only [evL'] at hx
   simp only [evalC]
   split at hx
   ·rename_i st' h1
    rw [toLC_sound a hy h1]
    exact toLC_sound b hz hx
   ·rename_i hne
    rw [toLC_sound a hy hx]
    obtain ⟨x1, x2⟩ := x
    cases x1 with
    | nrm => exact absurd hx (hne x2)
    | _ => rfl
  ·cases h
 | .cond q a b, lc, h, st, x, hx => by
  simp only [toLC] at h
  split at h
  ·rename_i y z hy hz
   simp only [Option.some.injEq] at h
   subst h
   simp only [evL'] at hx
   simp only [evalC]
   split at hx
   ·rename_i v hv
    rw [hv]
    cases v with
    | true => exact toLC_sound a hy hx
    | false => exact toLC_sound b hz hx
   ·cases hx
  ·cases h
 | .block id a, lc, h, st, x, hx => by
  simp only [toLC, Option.map_eq_some_iff] at h
  obtain ⟨y, hy, rfl⟩ := h
  simp only [evL'] at hx
  simp only [evalC]
  split at hx
  ·rename_i i st' h1
   rw [toLC_sound a hy h1]
   exact hx
  ·rename_i hne
   rw [toLC_sound a hy hx]
   obtain ⟨x1, x2⟩ := x
   cases x1 with
   | exit i => exact absurd hx (hne i x2)
   | _ => rfl
 | .loop a, lc, h, st, x, hx => by
  simp only [toLC, Option.map_eq_some_iff] at h
  obtain ⟨y, hy, rfl⟩ := h
  simp only [evL'] at hx
  simp only [evalC]
  obtain ⟨k, hk⟩ := lim_some hx
  refine lim_eq (fun k y h => iter_up _ k st y h) (i := k) ?_
  exact iter_mono (fun st x h => toLC_sound a hy h) k st x hk
 | .scope a, lc, h, st, x, hx => by
  simp only [toLC] at h
  simp only [evalC]
  exact toLC_sound a h hx
 | .exit id, lc, h, st, x, hx => by
  simp only [toLC, Option.some.injEq] at h; subst h
  simpa only [evL', evalC] using hx
 | .ret, lc, h, st, x, hx => by
  simp only [toLC, Option.some.injEq] at h; subst h
  simpa only [evL', evalC] using hx
 | .rangeFunc .., lc, h, st, x, hx => by simp [toLC] at h
 | .goto l, lc, h, st, x, hx => by simp [toLC] at h
 | .refuse y, lc, h, st, x, hx => by
  simp only [toLC, Option.some.injEq] at h
  subst h
  simp [evL', evXs, stepX, evX] at hx
theorem evL'_loop {h : Head} {c : LC} {st : St} : evL' P call om L n (.loop h c) st = match evL' P call om L n c (headSt L h st) with
  | some (.nrm, st') => evL' P call om L n (.loop h c) st'
  | r => r := by
 have up : ∀ st k y, iter (fun st => evL' P call om L n c (headSt L h st)) k st = some y → iter (fun st => evL' P call om L n c (headSt L h st)) (k + 1) st = some y := fun st k y hh => iter_up _ k st y hh
 have ext : ∀ o1 o2 : Option (Ex × St), (∀ y, o1 = some y ↔ o2 = some y) → o1 = o2 := by
  intro o1 o2 hq
  cases o1 with
  | none => cases o2 with
   | none => rfl
   | some y => exact ((hq y).2 rfl)
  | some y => exact ((hq y).1 rfl).symm
 have step : ∀ st y, evL' P call om L n (.loop h c) st = some y ↔ ∃ k, iter (fun st => evL' P call om L n c (headSt L h st)) k st = some y := by
  intro st y
  simp only [evL']
  exact lim_iff (up st)
 refine ext _ _ fun y => ?_
 rw [step]
 constructor
 ·rintro ⟨k, hk⟩
  cases k with
  | zero => simp [iter] at hk
  | succ k =>
   simp only [iter] at hk
   split at hk
   ·rename_i st' h1
    rw [h1]
    exact (step st' y).2 ⟨k, hk⟩
   ·rename_i hne
    rw [hk]
    obtain ⟨x1, x2⟩ := y
    cases x1 with
    | nrm => exact absurd hk (hne x2)
    | _ => rfl
 ·intro hh
  split at hh
  ·rename_i st' h1
   obtain ⟨k, hk⟩ := (step st' y).1 hh
   exact ⟨k + 1, by simp only [iter, h1]; exact hk⟩
  ·rename_i hne
   refine ⟨1, ?_⟩
   simp only [iter, hh]
   obtain ⟨x1, x2⟩ := y
   cases x1 with
   | nrm => exact absurd hh (hne x2)
   | _ => rfl
end
inductive RV where
 | tmp (t : Nat)
 | cell (a : Nat) (ag : Bool) (n : Nat)
def toRV (P : Program) : List ResultVar → Option (List RV)
 | [] => some []
 | .tmp t :: r => (toRV P r).map (.tmp t :: ·)
 | .cell a t :: r => match isAggT P t, szOf P t, toRV P r with
  | some ag, some n, some l => some (.cell a ag n :: l)
  | _, _, _ => none
def resR (s : Slots) (S : Store) : List RV → Option (List T)
 | [] => some []
 | .tmp t :: r => match resR s S r with
  | some l => some (get s t :: l)
  | none => none
 | .cell a ag n :: r => match loadR ag n S (get s a), resR s S r with
  | some x, some l => some (x :: l)
  | _, _ => none
theorem toRV_sound {P : Program} {s : Slots} {S : Store} : ∀ (l : List ResultVar) {rs : List RV} {ts : List T}, toRV P l = some rs → resR s S rs = some ts → resT P s S l = some ts
 | [], rs, ts, h, hr => by
  simp only [toRV, Option.some.injEq] at h; subst h
  exact hr
 | .tmp t :: r, rs, ts, h, hr => by
  simp only [toRV, Option.map_eq_some_iff] at h
  obtain ⟨l, hl, rfl⟩ := h
  simp only [resR] at hr
  split at hr
  ·rename_i us hu
   simp only [resT, toRV_sound r hl hu, Option.map_some]
   exact hr
  ·cases hr
 | .cell a t :: r, rs, ts, h, hr => by
  simp only [toRV] at h
  split at h
  ·rename_i ag n l h1 h2 h3
   simp only [Option.some.injEq] at h
   subst h
   simp only [resR] at hr
   split at hr
   ·rename_i x us hx hu
    obtain ⟨e, he⟩ := loadR_eq h1 h2 hx
    simp only [resT, he, toRV_sound r h3 hu]
    exact hr
   ·cases hr
  ·cases h
structure LF where
 n : Nat
 c : LC
 r : List RV
 z : Bool
def toLF (P : Program) (an : Nat → Head) (fn : Func) : Option LF :=
 match fn.body with
 | some c => match toLC P an fn.ntmps c, toRV P fn.results.toList with
  | some lc, some rs => some ⟨fn.ntmps, lc, rs, (an 3000005).fu⟩
  | _, _ => none
 | none => none
noncomputable def evF (P : Program) (call : CallF) (om : FuncId → List Nat) (L : Nat) (F : LF) (args : List T) (S : Store) : Option (T × Store) :=
 match evL' P call om (L + 1) F.n F.c ⟨(List.range args.length).zip args, S⟩ with
 | some (.exit _, _) | none => none
 | some (_, st) => match resR st.s st.S F.r with
  | some ts => hand F.z (L + 1) (oneT ts) st.S
  | none => none
theorem callF_light {E : Env} {L : Nat} {f : FuncId} {fn : Func} {F : LF} {args : List T} {S : Store} {x : T × Store} (hX : E.X f = none) (hf : E.P.funcs[f]? = some fn) (hF : toLF E.P (E.an f) fn = some F) (hn : args.length ≤ F.n)
  (h : evF E.P (callF E) E.om L F args S = some x) : callF E L f args S = some x := by
 refine callF_of ?_
 unfold toLF at hF
 split at hF
 ·rename_i c hb
  split at hF
  ·rename_i lc rs hc hr
   simp only [Option.some.injEq] at hF
   subst hF
   unfold evF at h
   unfold fnStep
   simp only [hX, hf, hb]
   rw [if_pos hn]
   split at h
   ·cases h
   ·cases h
   ·rename_i y st hne he
    rw [toLC_sound c hc he]
    split at h
    ·rename_i ts hts
     have := toRV_sound _ hr hts
     cases y with
     | exit i => exact absurd rfl (hne i)
     | nrm => simp only [this]; exact h
     | ret => simp only [this]; exact h
    ·cases h
  ·cases hF
 ·cases hF
end Go.TM
