/- Operations in the light form, one after the other. -/
import Derived.Test.YtgmclgajlofljaaGreatDoorTmLightOk
set_option linter.all false
namespace Go.TM
open Go
structure LOp where
 d : Option Nat
 g : Option (Nat × Bool)
 x : X
def dOk (n : Nat) : Option Nat → Bool
 | some d => decide (d < n)
 | none => true
def toL (P : Program) (n : Nat) (all : Array Oper) (o : Oper) : Option LOp :=
 if dOk n o.dst = true then
  match toX1 P o with
  | some x => match o.guard with
   | none => some ⟨o.dst, none, x⟩
   | some (j, w) => match (all[j]?).bind (·.dst) with
    | some t => some ⟨o.dst, some (t, w), x⟩
    | none => none
  | none => none
 else none
def toLs (P : Program) (n : Nat) (all : Array Oper) : List Oper → Option (List LOp)
 | [] => some []
 | o :: r => match toL P n all o, toLs P n all r with
  | some x, some l => some (x :: l)
  | _, _ => none
def putX (s : Slots) : Option Nat → T → Slots
 | some d, t => (d, t) :: s
 | none, _ => s
def stepX (call : CallF) (om : FuncId → List Nat) (L : Nat) (o : LOp) (st : St) : Option St :=
 match o.g with
 | none => match evX call om L o.d st.s st.S o.x with
  | some p => some ⟨putX st.s o.d p.1, p.2⟩
  | none => none
 | some (j, w) => match get st.s j with
  | .sc (.bool b) => bif b == w then (match evX call om L o.d st.s st.S o.x with
    | some p => some ⟨putX st.s o.d p.1, p.2⟩
    | none => none)
   else some ⟨putX st.s o.d (.tup []), st.S⟩
  | .tup [] => some ⟨putX st.s o.d (.tup []), st.S⟩
  | _ => none
def evXs (call : CallF) (om : FuncId → List Nat) (L : Nat) : List LOp → St → Option St
 | [], st => some st
 | o :: r, st => match stepX call om L o st with
  | some st' => evXs call om L r st'
  | none => none
section
variable {P : Program} {call : CallF} {om : FuncId → List Nat} {L n : Nat}
theorem toL_sound {all : Array Oper} {i : Nat} {o : Oper} {lo : LOp} (ho : all[i]? = some o) (h : toL P n all o = some lo) {st st' : St} (hs : stepX call om L lo st = some st') : stepOp P call om L n all i st = some st' := by
 unfold toL at h
 split at h
 ·rename_i hd
  have hput : ∀ t, putT n st.s o.dst t = some (putX st.s o.dst t) := by
   intro t
   cases hdst : o.dst with
   | none => rfl
   | some d =>
    simp only [hdst, dOk, decide_eq_true_eq] at hd
    simp [putT, putX, hd]
  split at h
  ·rename_i x hx
   have run : ∀ st1, (match evX call om L o.dst st.s st.S x with
     | some p => some (⟨putX st.s o.dst p.1, p.2⟩ : St)
     | none => none) = some st1 → (match evalOp P call om L o st.s st.S with
     | some re => (putT n st.s o.dst re.t).map fun s => (⟨s, re.S⟩ : St)
     | none => none) = some st1 := by
    intro st1 h1
    split at h1
    ·rename_i p hp
     simp only [Option.some.injEq] at h1
     subst h1
     obtain ⟨e, he⟩ := toX1_sound (t := p.1) (S' := p.2) hx hp
     rw [he]
     simp only [hput, Option.map_some]
    ·cases h1
   unfold stepOp
   simp only [ho]
   split at h
   ·rename_i hg
    simp only [Option.some.injEq] at h
    subst h
    simp only [stepX] at hs
    simp only [want, hg]
    exact run _ hs
   ·rename_i j w hg
    split at h
    ·rename_i t ht
     simp only [Option.some.injEq] at h
     subst h
     simp only [stepX] at hs
     simp only [want, hg, ht, Option.map_some]
     split at hs
     ·rename_i b hb
      simp only [hb]
      cases hbw : b == w with
      | true =>
       rw [hbw, cond_true] at hs
       exact run _ hs
      | false =>
       rw [hbw, cond_false] at hs
       simp only [Option.some.injEq] at hs
       subst hs
       simp only [hput, Option.map_some]
     ·rename_i hb
      simp only [hb]
      simp only [Option.some.injEq] at hs
      subst hs
      simp only [hput, Option.map_some]
     ·cases hs
    ·cases h
  ·cases h
 ·cases h
theorem toLs_sound {all : Array Oper} : ∀ (l : List Oper) (i : Nat) {ll : List LOp}, toLs P n all l = some ll → (∀ j o, l[j]? = some o → all[i + j]? = some o) → ∀ {st st' : St}, evXs call om L ll st = some st' →
  evalOps P call om L n all (List.range' i l.length) st = some st'
 | [], i, ll, h, hal, st, st', hs => by
  simp only [toLs, Option.some.injEq] at h
  subst h
  exact hs
 | o :: r, i, ll, h, hal, st, st', hs => by
  simp only [toLs] at h
  split at h
  ·rename_i x l hx hl
   simp only [Option.some.injEq] at h
   subst h
   simp only [evXs] at hs
   split at hs
   ·rename_i st1 h1
    rw [List.length_cons, List.range'_succ]
    simp only [evalOps]
    rw [toL_sound (by simpa using hal 0 o rfl) hx h1]
    exact toLs_sound r (i + 1) hl (fun j o hj => by rw [Nat.add_right_comm]; exact hal (j + 1) o hj) hs
   ·cases hs
  ·cases h
end
theorem toLs_get {P : Program} {n : Nat} {all : Array Oper} : ∀ (ops : List Oper) {l : List LOp}, toLs P n all ops = some l → ∀ {i : Nat} {lo : LOp}, l[i]? = some lo → ∃ o, ops[i]? = some o ∧ toL P n all o = some lo
 | [], l, h, i, lo, hi => by
  simp only [toLs, Option.some.injEq] at h
  subst h
  simp at hi
 | o :: r, l, h, i, lo, hi => by
  simp only [toLs] at h
  split at h
  ·rename_i x xs hx hxs
   simp only [Option.some.injEq] at h
   subst h
   cases i with
   | zero => simp at hi; subst hi; exact ⟨o, rfl, hx⟩
   | succ i => simp at hi; exact toLs_get r hxs hi
  ·cases h
end Go.TM
