/- Slots; operations on plain values; operations that touch no memory. -/
import Derived.Test.YtioldkniiilhnaaGreatDoorTmSnap
import Derived.Laws.Sem
set_option linter.all false
namespace Go.TM
open Go
set_option linter.unusedVariables false
set_option linter.unusedSimpArgs false

def SR (c : Ctx) (n : Nat) (s : Slots) (a : Act) : Prop := a.tmps.size = n ∧ a.defers = [] ∧ ∀ d, Rep c (get s d) (a.tmps.getD d undef)

theorem SR.kept {c c' : Ctx} {n : Nat} {s : Slots} {a : Act} (hk : Kept c c') (h : SR c n s a) : SR c' n s a := ⟨h.1, h.2.1, fun d => (h.2.2 d).kept hk⟩

theorem get_cons (s : Slots) (d d' : Nat) (t : T) : get ((d, t) :: s) d' = if d' = d then t else get s d' := by
 unfold get
 simp only [List.lookup_cons]
 by_cases h : d' = d
 ·simp [h]
 ·simp [h, beq_eq_false_iff_ne.2 h]

theorem SR.put {c : Ctx} {n : Nat} {s s' : Slots} {a : Act} {d : Option Tmp} {t : T} {v : Value} (h : SR c n s a) (hp : putT n s d t = some s') (hv : Rep c t v) : SR c n s' (a.put d v) := by
 cases d with
 | none =>
  simp only [putT, Option.some.injEq] at hp
  subst hp
  exact h
 | some d =>
  simp only [putT] at hp
  split at hp
  ·rename_i hd
   simp only [Option.some.injEq] at hp
   subst hp
   refine ⟨by simp [Act.put, h.1], h.2.1, fun d' => ?_⟩
   rw [get_cons]
   by_cases e : d' = d
   ·subst e
    simp only [Act.put, if_true]
    have : d' < a.tmps.size := by rw [h.1]; exact hd
    rw [Array.getD_eq_getD_getElem?, Array.getElem?_setIfInBounds_self_of_lt this]
    exact hv
   ·simp only [Act.put, e, if_false]
    have := h.2.2 d'
    rw [Array.getD_eq_getD_getElem?] at this ⊢
    rw [Array.getElem?_setIfInBounds_ne (Ne.symm e)]
    exact this
  ·cases hp

theorem ev_rep {c : Ctx} {n : Nat} {s : Slots} {a : Act} (h : SR c n s a) {x : Operand} {t : T} (hx : ev s x = some t) : Rep c t (a.eval x) := by
 cases x with
 | tmp d => simp only [ev, Option.some.injEq] at hx; subst hx; exact h.2.2 d
 | const v =>
  simp only [ev, evV] at hx
  split at hx
  ·rename_i hv
   simp only [Option.some.injEq] at hx
   subst hx
   exact .sc v hv
  ·cases hx
 | func f => simp only [ev, Option.some.injEq] at hx; subst hx; exact .sc _ rfl
 | global g => simp [ev] at hx

theorem evL_rep {c : Ctx} {n : Nat} {s : Slots} {a : Act} (h : SR c n s a) : ∀ {xs : List Operand} {ts : List T}, evL s xs = some ts → RepL c ts (xs.map a.eval)
 | [], ts, hx => by simp only [evL, Option.some.injEq] at hx; subst hx; exact .nil
 | x :: xs, ts, hx => by
  simp only [evL] at hx
  split at hx
  ·rename_i t l h1 h2
   simp only [Option.some.injEq] at hx
   subst hx
   exact .cons _ _ _ _ (ev_rep h h1) (evL_rep h h2)
  ·cases hx

theorem Rep.scv {c : Ctx} {v x : Value} (h : Rep c (.sc v) x) : x = v := by cases h; rfl

theorem scV_eq {c : Ctx} {n : Nat} {s : Slots} {a : Act} (h : SR c n s a) {x : Operand} (hx : isScO s x = true) : scV s x = a.eval x := by
 unfold isScO at hx
 unfold scV
 split at hx
 ·rename_i v hv
  exact (ev_rep h hv).scv.symm
 ·cases hx

theorem pureRun_run {α : Type} (P : Program) : ∀ (m : Sem α) {x : α}, pureRun P m = some x → ∀ w, m.run P w = .ok x w
 | .pure a, x, h, w => by simp only [pureRun, Option.some.injEq] at h; subst h; rfl
 | .program k, x, h, w => by simp only [pureRun] at h; simpa [Sem.run] using pureRun_run P (k P) h w
 | .mark _ k, x, h, w => by simp only [pureRun] at h; simpa [Sem.run] using pureRun_run P k h w
 | .load .., x, h, w => by simp [pureRun] at h
 | .store .., x, h, w => by simp [pureRun] at h
 | .new .., x, h, w => by simp [pureRun] at h
 | .shape .., x, h, w => by simp [pureRun] at h
 | .freeze .., x, h, w => by simp [pureRun] at h
 | .frozen .., x, h, w => by simp [pureRun] at h
 | .getObj .., x, h, w => by simp [pureRun] at h
 | .setObj .., x, h, w => by simp [pureRun] at h
 | .choose .., x, h, w => by simp [pureRun] at h
 | .sys .., x, h, w => by simp [pureRun] at h
 | .halt .., x, h, w => by simp [pureRun] at h

theorem execOp_congr {ρ ρ' : Operand → Value} (o : Oper) (hp : plainOp o.op = true) (h : ∀ x ∈ o.op.operands, ρ x = ρ' x) : execOp ρ o = execOp ρ' o := by
 obtain ⟨dst, op, type, pos, after, guard⟩ := o
 cases op <;> simp only [plainOp, Bool.false_eq_true] at hp
 case binOp op xt x y yt =>
  have h1 := h x (by simp [Op.operands]); have h2 := h y (by simp [Op.operands])
  simp only [execOp, h1, h2]
 case unOp op xt x => have h1 := h x (by simp [Op.operands]); simp only [execOp, h1]
 case convert s d x => have h1 := h x (by simp [Op.operands]); simp only [execOp, h1]
 case index xt x i =>
  have h1 := h x (by simp [Op.operands]); have h2 := h i (by simp [Op.operands])
  simp only [execOp, h1, h2]
 case slice xt x lo hi mx =>
  have h1 := h x (by simp [Op.operands])
  have h2 : lo.map ρ = lo.map ρ' := by cases lo with | none => rfl | some y => simp [h y (by simp [Op.operands])]
  have h3 : hi.map ρ = hi.map ρ' := by cases hi with | none => rfl | some y => simp [h y (by simp [Op.operands])]
  have h4 : mx.map ρ = mx.map ρ' := by cases mx with | none => rfl | some y => simp [h y (by simp [Op.operands])]
  simp only [execOp, h1, h2, h3, h4]
 case call cl =>
  obtain ⟨callee, args, at_⟩ := cl
  cases callee with
  | value f => simp [plainOp] at hp
  | invoke r m => simp [plainOp] at hp
  | builtin b =>
   have hm : args.map ρ = args.map ρ' := by
    apply Array.map_congr_left
    intro x hx
    exact h x (by simp [Op.operands, Call.operands, hx])
   simp only [execOp, resolve, hm]

theorem ruleA_run {P : Program} {o : Oper} {c : Ctx} {n : Nat} {s : Slots} {a : Act} (hs : SR c n s a) {t : T} (h : ruleA P o s = some t) :
  ∃ v, t = .sc v ∧ isSc v = true ∧ ∀ w, (execOp a.eval o).run P w = .ok (.value v) w := by
 unfold ruleA at h
 split at h
 ·rename_i hp
  simp only [Bool.and_eq_true, Array.all_eq_true_iff_forall_mem] at hp
  split at h
  ·rename_i v hr
   split at h
   ·rename_i hv
    simp only [Option.some.injEq] at h
    refine ⟨v, h.symm, hv, fun w => ?_⟩
    rw [← execOp_congr o hp.1 (fun x hx => scV_eq hs (hp.2 x hx))]
    exact pureRun_run P _ hr w
   ·cases h
  ·cases h
 ·cases h

end Go.TM
