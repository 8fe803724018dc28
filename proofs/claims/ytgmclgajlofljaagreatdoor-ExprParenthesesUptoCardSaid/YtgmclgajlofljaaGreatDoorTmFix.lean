/- What calls come to answers its own equation. -/
import Derived.Test.YtgmclgajlofljaaGreatDoorTmFn
set_option linter.all false
namespace Go.TM
open Go
def Le (c c' : CallF) : Prop := ∀ L f a S x, c L f a S = some x → c' L f a S = some x
theorem Le.refl (c : CallF) : Le c c := fun _ _ _ _ _ h => h
structure Chain (ch : Nat → CallF) (cl : CallF) : Prop where
 up : ∀ k, Le (ch k) (ch (k + 1))
 lim : ∀ L f a S x, cl L f a S = some x → ∃ k, ch k L f a S = some x
theorem Chain.le {ch : Nat → CallF} {cl : CallF} (h : Chain ch cl) {i : Nat} : ∀ {j : Nat}, i ≤ j → Le (ch i) (ch j)
 | 0, hij => by
  have : i = 0 := by omega
  subst this; exact Le.refl _
 | j + 1, hij => by
  by_cases e : i = j + 1
  ·subst e; exact Le.refl _
  ·exact fun L f a S x hx => h.up j L f a S x (h.le (j := j) (by omega) L f a S x hx)
structure Cts (φ : CallF → Prop) : Prop where
 mono : ∀ c c', Le c c' → φ c → φ c'
 cts : ∀ ch cl, Chain ch cl → φ cl → ∃ k, φ (ch k)
theorem Cts.const (p : Prop) : Cts fun _ => p := ⟨fun _ _ _ h => h, fun _ _ _ h => ⟨0, h⟩⟩
theorem Cts.and {φ ψ : CallF → Prop} (h : Cts φ) (k : Cts ψ) : Cts fun c => φ c ∧ ψ c :=
 ⟨fun c c' hl hp => ⟨h.mono c c' hl hp.1, k.mono c c' hl hp.2⟩, fun ch cl hc hp => by
  obtain ⟨i, hi⟩ := h.cts ch cl hc hp.1
  obtain ⟨j, hj⟩ := k.cts ch cl hc hp.2
  exact ⟨i + j, h.mono _ _ (hc.le (by omega)) hi, k.mono _ _ (hc.le (by omega)) hj⟩⟩
theorem Cts.or {φ ψ : CallF → Prop} (h : Cts φ) (k : Cts ψ) : Cts fun c => φ c ∨ ψ c :=
 ⟨fun c c' hl hp => hp.imp (h.mono c c' hl) (k.mono c c' hl), fun ch cl hc hp => by
  rcases hp with hp | hp
  ·obtain ⟨i, hi⟩ := h.cts ch cl hc hp; exact ⟨i, .inl hi⟩
  ·obtain ⟨i, hi⟩ := k.cts ch cl hc hp; exact ⟨i, .inr hi⟩⟩
theorem Cts.ex {α : Sort _} {φ : α → CallF → Prop} (h : ∀ x, Cts (φ x)) : Cts fun c => ∃ x, φ x c :=
 ⟨fun c c' hl ⟨x, hp⟩ => ⟨x, (h x).mono c c' hl hp⟩, fun ch cl hc ⟨x, hp⟩ => by
  obtain ⟨i, hi⟩ := (h x).cts ch cl hc hp; exact ⟨i, x, hi⟩⟩
theorem Cts.all {α : Type} {φ : α → CallF → Prop} (h : ∀ x, Cts (φ x)) : ∀ l : List α, Cts fun c => ∀ x ∈ l, φ x c
 | [] => ⟨fun _ _ _ _ => by simp, fun _ _ _ _ => ⟨0, by simp⟩⟩
 | x :: xs => by
  have := (h x).and (Cts.all h xs)
  refine ⟨fun c c' hl hp => ?_, fun ch cl hc hp => ?_⟩
  ·rw [List.forall_mem_cons] at hp ⊢; exact this.mono c c' hl hp
  ·rw [List.forall_mem_cons] at hp
   obtain ⟨k, hk⟩ := this.cts ch cl hc hp
   exact ⟨k, by rw [List.forall_mem_cons]; exact hk⟩
theorem Cts.iff {φ ψ : CallF → Prop} (h : Cts φ) (e : ∀ c, ψ c ↔ φ c) : Cts ψ :=
 ⟨fun c c' hl hp => (e c').2 (h.mono c c' hl ((e c).1 hp)), fun ch cl hc hp => by
  obtain ⟨k, hk⟩ := h.cts ch cl hc ((e cl).1 hp); exact ⟨k, (e _).2 hk⟩⟩
theorem Cts.call (L : Nat) (f : FuncId) (a : List T) (S : Store) (x : T × Store) : Cts fun c => c L f a S = some x :=
 ⟨fun c c' hl h => hl _ _ _ _ _ h, fun ch cl hc h => hc.lim _ _ _ _ _ h⟩
def OneCall {α : Type} (F : CallF → Option α) : Prop :=
 (∀ c c', F c = F c') ∨ ∃ L f a S G, ∀ c : CallF, F c = (c L f a S).bind G
theorem OneCall.cts {α : Type} {F : CallF → Option α} (h : OneCall F) (x : α) : Cts fun c => F c = some x := by
 rcases h with h | ⟨L, f, a, S, G, h⟩
 ·exact (Cts.const (F (fun _ _ _ _ => none) = some x)).iff fun c => by rw [h c]
 ·refine (Cts.ex fun y => (Cts.call L f a S y).and (Cts.const (G y = some x))).iff fun c => ?_
  rw [h c]
  exact Option.bind_eq_some_iff
theorem OneCall.bind {α β : Type} {F : CallF → Option α} (h : OneCall F) (K : α → Option β) : OneCall fun c => (F c).bind K := by
 rcases h with h | ⟨L, f, a, S, G, h⟩
 ·exact .inl fun c c' => by simp only [h c c']
 ·exact .inr ⟨L, f, a, S, fun y => (G y).bind K, fun c => by dsimp only; rw [h c, Option.bind_assoc]⟩
theorem goW_one (L : Nat) (d : Option Tmp) (g : FuncId) (as : List T) (S : Store) (o : Option Loc) : OneCall fun call => goW call L d g as S o := by
 cases o with
 | none => exact .inr ⟨L, g, as, S, fun p => (takeIn (L + 1) L d p.1 p.2 (trunc L p.2)).map fun p => ⟨p.1, p.2, 2⟩, fun c => by dsimp only [goW]; cases c L g as S <;> rfl⟩
 | some l =>
  simp only [goW]
  split
  ·exact .inr ⟨L, g, as, only l S, fun p => if (closed p.1 && boxC p.2 l) = true then some ⟨p.1, lay1 l p.2 S, 2⟩ else none, fun c => by dsimp only; cases c L g as (only l S) <;> rfl⟩
  ·exact .inl fun _ _ => rfl
theorem goT_one (om : FuncId → List Nat) (L : Nat) (d : Option Tmp) (S : Store) (g : FuncId) (args caps : List T) : OneCall fun call => goT call om L d S g args caps := by
 unfold goT
 cases snapArgs (om g) S 0 args with
 | none => exact .inl fun _ _ => rfl
 | some p =>
  obtain ⟨as, ls⟩ := p
  simp only []
  split
  ·exact .inr ⟨0, g, as, emp, fun p => (takeIn 1 L d p.1 p.2 (keepS ls p.1 p.2 S)).map fun p => ⟨p.1, p.2, 1⟩, fun c => by dsimp only; cases c 0 g as emp <;> rfl⟩
  ·split
   ·exact .inr ⟨L - 1, g, as ++ caps, trunc (L - 1) (setRo S ls), fun p => (lowTake L d p.1 p.2 (lay (L - 1) p.2 (setRo S ls))).map fun p => ⟨p.1, p.2, 2⟩, fun c => by dsimp only; cases c (L - 1) g (as ++ caps) (trunc (L - 1) (setRo S ls)) <;> rfl⟩
   exact goW_one L d g (as ++ caps) (setRo S ls) _
theorem callT_one (om : FuncId → List Nat) (L : Nat) (d : Option Tmp) (S : Store) (f : T) (args : List T) : OneCall fun call => callT call om L d S f args := by
 unfold callT
 split
 ·exact goT_one ..
 ·rename_i g caps
  cases Nat.blt g 1000000000 with
  | true => exact goT_one ..
  | false => exact goT_one ..
 ·exact .inl fun _ _ => rfl
theorem evalOp_one (P : Program) (om : FuncId → List Nat) (L : Nat) (o : Oper) (s : Slots) (S : Store) : OneCall fun call => evalOp P call om L o s S := by
 unfold evalOp
 split
 ·exact .inl fun _ _ => rfl
 ·split <;> try exact .inl fun _ _ => rfl
  split <;> try exact .inl fun _ _ => rfl
  split
  ·generalize isNoEscO P _ = q
   cases q with
   | true => exact .inl fun _ _ => rfl
   | false => exact callT_one ..
  ·exact .inl fun _ _ => rfl
theorem stepOp_one (P : Program) (om : FuncId → List Nat) (L n : Nat) (all : Array Oper) (i : Nat) (st : St) : OneCall fun call => stepOp P call om L n all i st := by
 unfold stepOp
 split
 ·rename_i o ho
  split
  ·have h := (evalOp_one P om L o st.s st.S).bind fun re => (putT n st.s o.dst re.t).map fun s => (⟨s, re.S⟩ : St)
   rcases h with h | ⟨L, f, a, S, G, h⟩
   ·refine .inl fun c c' => ?_
    have := h c c'
    cases h1 : evalOp P c om L o st.s st.S <;> cases h2 : evalOp P c' om L o st.s st.S <;> simp_all
   ·refine .inr ⟨L, f, a, S, G, fun c => ?_⟩
    rw [← h c]
    dsimp only
    split
    ·rename_i re hre; rw [hre]; rfl
    ·rename_i hre; rw [hre]; rfl
  ·exact .inl fun _ _ => rfl
  ·exact .inl fun _ _ => rfl
 ·exact .inl fun _ _ => rfl
theorem evalOps_cts (P : Program) (om : FuncId → List Nat) (L n : Nat) (all : Array Oper) : ∀ (l : List Nat) (st fin : St), Cts fun call => evalOps P call om L n all l st = some fin
 | [], st, fin => (Cts.const (some st = some fin)).iff fun c => Iff.rfl
 | i :: r, st, fin => by
  refine (Cts.ex fun st' => ((stepOp_one P om L n all i st).cts st').and (evalOps_cts P om L n all r st' fin)).iff fun c => ?_
  simp only [evalOps]
  split
  ·rename_i st' h; simp [h]
  ·rename_i h; simp [h]
theorem anyOk_cts (P : Program) (om : FuncId → List Nat) (L n : Nat) (md : Region.Mode) (ops : Array Oper) (fin : St) : ∀ (k : Nat) (listed : Array Bool) (st : St), Cts fun call => anyOk P call om L n md ops fin k listed st
 | 0, listed, st => (Cts.const (Region.ready md ops listed = [] ∧ stEq st fin)).iff fun c => Iff.rfl
 | k + 1, listed, st => by
  refine ((Cts.const (Region.ready md ops listed = [] ∧ stEq st fin)).or ((Cts.ex fun i => Cts.ex fun o => Cts.ex fun st' => (Cts.const (i ∈ Region.ready md ops listed)).and ((Cts.const (ops[i]? = some o)).and
   ((Cts.const (calm o.op = true)).and ((Cts.const (Region.free md ops listed i = true)).and (((stepOp_one P om L n ops i st).cts st').and (anyOk_cts P om L n md ops fin k (listed.setIfInBounds i true) st')))))).or
   ((Cts.const (Region.ready md ops listed ≠ [])).and (Cts.all (fun i => Cts.ex fun st' => ((stepOp_one P om L n ops i st).cts st').and (anyOk_cts P om L n md ops fin k (listed.setIfInBounds i true) st')) (Region.ready md ops listed))))).iff fun c => ?_
  rfl
theorem drawOk_cts (P : Program) (om : FuncId → List Nat) (L n : Nat) (ops : Array Oper) (st fin : St) : Cts fun call => drawOk P call om L n ops st fin := by
 refine ((Cts.const (Region.noSelect ops = true)).and (Cts.all (fun md => anyOk_cts P om L n md ops fin ops.size (Array.replicate ops.size false) st) [.text, .gc, .any])).iff fun c => ?_
 unfold drawOk
 refine and_congr Iff.rfl ⟨fun h md _ => h md, fun h md => h md (by cases md <;> simp)⟩
theorem iter_up (f : St → Option (Ex × St)) : ∀ (k : Nat) (st : St) (x : Ex × St), iter f k st = some x → iter f (k + 1) st = some x
 | 0, st, x, h => by simp [iter] at h
 | k + 1, st, x, h => by
  unfold iter at h ⊢
  split at h
  ·rename_i st' h1
   exact iter_up f k st' x h
  ·exact h
theorem up_le {α : Type} {f : Nat → Option α} (h : ∀ k x, f k = some x → f (k + 1) = some x) {i : Nat} {x : α} (hi : f i = some x) : ∀ j, f (i + j) = some x
 | 0 => hi
 | j + 1 => h _ _ (up_le h hi j)
theorem lim_eq {α : Type} {f : Nat → Option α} (h : ∀ k x, f k = some x → f (k + 1) = some x) {i : Nat} {x : α} (hi : f i = some x) : lim f = some x := by
 unfold lim
 have hex : ∃ x k, f k = some x := ⟨x, i, hi⟩
 rw [dif_pos hex]
 obtain ⟨k, hk⟩ := hex.choose_spec
 have h1 := up_le h hi k
 have h2 := up_le h hk i
 rw [Nat.add_comm] at h2
 rw [← h2]; exact h1
theorem lim_iff {α : Type} {f : Nat → Option α} (h : ∀ k x, f k = some x → f (k + 1) = some x) {x : α} : lim f = some x ↔ ∃ k, f k = some x :=
 ⟨lim_some, fun ⟨_, hk⟩ => lim_eq h hk⟩
theorem iter_cts {F : CallF → St → Option (Ex × St)} (hF : ∀ st x, Cts fun c => F c st = some x) : ∀ (k : Nat) (st : St) (x : Ex × St), Cts fun c => iter (F c) k st = some x
 | 0, st, x => (Cts.const False).iff fun c => by simp [iter]
 | k + 1, st, x => by
  refine ((Cts.ex fun st' => (hF st (.nrm, st')).and (iter_cts hF k st' x)).or ((hF st x).and (Cts.const (x.1 ≠ .nrm)))).iff fun c => ?_
  simp only [iter]
  split
  ·rename_i st' h
   rw [h]
   constructor
   ·intro h'; exact .inl ⟨st', rfl, h'⟩
   ·rintro (⟨st1, h1, h2⟩ | ⟨h1, h2⟩)
    ·simp only [Option.some.injEq, Prod.mk.injEq, true_and] at h1
     subst h1; exact h2
    ·simp only [Option.some.injEq] at h1
     subst h1; exact absurd rfl h2
  ·rename_i hne
   constructor
   ·intro h'
    refine .inr ⟨h', fun e => ?_⟩
    obtain ⟨x1, x2⟩ := x
    simp only at e
    subst e
    exact hne x2 h'
   ·rintro (⟨st1, h1, h2⟩ | ⟨h1, h2⟩)
    ·exact absurd h1 (hne st1)
    ·exact h1
theorem evalC_cts (P : Program) (om : FuncId → List Nat) (an : Nat → Head) (L n : Nat) : ∀ (code : Code) (st : St) (x : Ex × St), Cts fun call => evalC P call om an L n code st = some x
 | .skip, st, x => (Cts.const (some (Ex.nrm, st) = some x)).iff fun c => by simp only [evalC]
 | .label l, st, x => (Cts.const (some (Ex.nrm, st) = some x)).iff fun c => by simp only [evalC]
 | .region id ops false, st, x => by
  refine (Cts.ex fun fin => (evalOps_cts P om L n ops (List.range ops.size) st fin).and (Cts.const ((Ex.nrm, fin) = x))).iff fun c => ?_
  simp only [evalC, Option.map_eq_some_iff]
 | .region id ops true, st, x => by
  refine (Cts.ex fun fin => (evalOps_cts P om L n ops (List.range ops.size) st fin).and ((drawOk_cts P om L n ops st fin).and (Cts.const ((Ex.nrm, fin) = x)))).iff fun c => ?_
  simp only [evalC]
  split
  ·rename_i fin h
   simp only [h, Option.some.injEq, exists_eq_left']
   split
   ·rename_i hd; simp [hd]
   ·rename_i hd; simp [hd]
  ·rename_i h
   simp [h]
 | .seq p q, st, x => by
  refine ((Cts.ex fun st' => (evalC_cts P om an L n p st (.nrm, st')).and (evalC_cts P om an L n q st' x)).or ((evalC_cts P om an L n p st x).and (Cts.const (x.1 ≠ .nrm)))).iff fun c => ?_
  simp only [evalC]
  split
  ·rename_i st' h
   rw [h]
   constructor
   ·intro h'; exact .inl ⟨st', rfl, h'⟩
   ·rintro (⟨st1, h1, h2⟩ | ⟨h1, h2⟩)
    ·simp only [Option.some.injEq, Prod.mk.injEq, true_and] at h1
     subst h1; exact h2
    ·simp only [Option.some.injEq] at h1
     subst h1; exact absurd rfl h2
  ·rename_i hne
   constructor
   ·intro h'
    refine .inr ⟨h', fun e => ?_⟩
    obtain ⟨x1, x2⟩ := x
    simp only at e
    subst e
    exact hne x2 h'
   ·rintro (⟨st1, h1, h2⟩ | ⟨h1, h2⟩)
    ·exact absurd h1 (hne st1)
    ·exact h1
 | .cond q y z, st, x => by
  simp only [evalC]
  split
  ·rename_i b hb
   cases b with
   | true => exact evalC_cts P om an L n y st x
   | false => exact evalC_cts P om an L n z st x
  ·exact Cts.const _
 | .block id p, st, x => by
  refine ((Cts.ex fun st' => (evalC_cts P om an L n p st (.exit id, st')).and (Cts.const ((Ex.nrm, st') = x))).or ((evalC_cts P om an L n p st x).and (Cts.const (x.1 ≠ .exit id)))).iff fun c => ?_
  simp only [evalC]
  split
  ·rename_i i st' h
   rw [h]
   split
   ·rename_i hid
    subst hid
    constructor
    ·intro h'; exact .inl ⟨st', rfl, by simpa using h'⟩
    ·rintro (⟨st1, h1, h2⟩ | ⟨h1, h2⟩)
     ·simp only [Option.some.injEq, Prod.mk.injEq, true_and] at h1
      subst h1; rw [h2]
     ·simp only [Option.some.injEq] at h1
      subst h1; exact absurd rfl h2
   ·rename_i hid
    constructor
    ·intro h'
     refine .inr ⟨h', fun e => ?_⟩
     simp only [Option.some.injEq] at h'
     subst h'
     simp only [Ex.exit.injEq] at e
     exact hid e
    ·rintro (⟨st1, h1, h2⟩ | ⟨h1, h2⟩)
     ·simp only [Option.some.injEq, Prod.mk.injEq, Ex.exit.injEq] at h1
      exact absurd h1.1 hid
     ·exact h1
  ·rename_i hne
   constructor
   ·intro h'
    refine .inr ⟨h', fun e => ?_⟩
    obtain ⟨x1, x2⟩ := x
    simp only at e
    subst e
    exact hne id x2 h'
   ·rintro (⟨st1, h1, h2⟩ | ⟨h1, h2⟩)
    ·exact absurd h1 (hne id st1)
    ·exact h1
 | .loop p, st, x => by
  refine (Cts.ex fun k => iter_cts (F := fun call st => evalC P call om an L n p (headSt L (an (3 * firstRegion p)) st))
   (fun st x => evalC_cts P om an L n p _ x) k st x).iff fun c => ?_
  simp only [evalC]
  exact lim_iff fun k y h => iter_up _ k st y h
 | .scope p, st, x => by simp only [evalC]; exact evalC_cts P om an L n p st x
 | .exit id, st, x => (Cts.const (some (Ex.exit id, leaveSt L (an (3 * id + 1)) st) = some x)).iff fun c => by simp only [evalC]
 | .ret, st, x => (Cts.const (some (Ex.ret, leaveSt L (an 3000002) st) = some x)).iff fun c => by simp only [evalC]
 | .rangeFunc .., st, x => by simp only [evalC]; exact Cts.const _
 | .goto l, st, x => by simp only [evalC]; exact Cts.const _
 | .refuse y, st, x => by simp only [evalC]; exact Cts.const _
theorem fnStep_cts (E : Env) (L : Nat) (f : FuncId) (args : List T) (S : Store) (x : T × Store) : Cts fun call => fnStep E call L f args S = some x := by
 unfold fnStep
 split
 ·exact Cts.const _
 ·split
  ·rename_i fn hf
   split
   ·rename_i code hb
    split
    ·refine (Cts.ex fun y => (evalC_cts E.P E.om (E.an f) (L + 1) fn.ntmps code ⟨(List.range args.length).zip args, S⟩ y).and (Cts.const ((∀ id, y.1 ≠ .exit id) ∧ (match resT E.P y.2.s y.2.S fn.results.toList with
      | some ts => hand (E.an f 3000005).fu (L + 1) (oneT ts) y.2.S
      | none => none) = some x))).iff fun c => ?_
     split
     ·rename_i id st h
      rw [h]
      simp
     ·rename_i h
      rw [h]
      simp
     ·rename_i y st hne h
      rw [h]
      simp only [Option.some.injEq, exists_eq_left']
      exact ⟨fun h => ⟨fun id e => hne id e, h⟩, fun h => h.2⟩
    ·exact Cts.const _
   ·exact Cts.const _
  ·exact Cts.const _
theorem evalFn_up (E : Env) : ∀ k, Le (evalFn E k) (evalFn E (k + 1))
 | 0 => fun L f a S x h => by simp [evalFn] at h
 | k + 1 => fun L f a S x h => (fnStep_cts E L f a S x).mono _ _ (evalFn_up E k) h
theorem evalFn_chain (E : Env) : Chain (evalFn E) (callF E) := ⟨evalFn_up E, fun L f a S x h => lim_some h⟩
theorem callF_of {E : Env} {L : Nat} {f : FuncId} {args : List T} {S : Store} {x : T × Store} (h : fnStep E (callF E) L f args S = some x) : callF E L f args S = some x := by
 obtain ⟨k, hk⟩ := (fnStep_cts E L f args S x).cts _ _ (evalFn_chain E) h
 exact lim_eq (f := fun k => evalFn E k L f args S) (fun k y hy => evalFn_up E k L f args S y hy) (i := k + 1) hk
end Go.TM
