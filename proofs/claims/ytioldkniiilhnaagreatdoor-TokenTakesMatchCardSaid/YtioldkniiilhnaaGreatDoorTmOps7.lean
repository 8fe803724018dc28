/- One operation. -/
import Derived.Test.YtioldkniiilhnaaGreatDoorTmCall
import Derived.Test.YtioldkniiilhnaaGreatDoorTmOpsB
set_option linter.all false
namespace Go.TM
open Go
set_option linter.unusedVariables false
set_option linter.unusedSimpArgs false

theorem value_run {P : Program} {m : Sem Value} {w w' : World} {v : Value} (h : m.run P w = .ok v w') : (do pure (Next.value (← m)) : Sem Next).run P w = .ok (.value v) w' := by
 simp [Sem.run_bind, h, Result.andThen, Sem.run_pure]

theorem skip_run {P : Program} {m : Sem Unit} {w w' : World} (h : m.run P w = .ok () w') : (do m; pure Next.skip : Sem Next).run P w = .ok .skip w' := by
 simp [Sem.run_bind, h, Result.andThen, Sem.run_pure]

theorem builtin_run {P : Program} {a : Act} {o : Oper} {c : Call} {b : Builtin} (ho : o.op = .call c) (hb : c.callee = .builtin b) :
  ∃ k, ∀ w, (execOp a.eval o).run P w = (builtin b c.argTypes o.type k (c.args.map a.eval)).run P w := by
 simp only [execOp, ho, resolve, hb]
 exact ⟨_, fun w => by simp only [Sem.run_bind, Sem.run_pure, Result.andThen, invoke]; rfl⟩

theorem args_map {a : Act} {xs : Array Operand} : (xs.map a.eval) = (xs.toList.map a.eval).toArray := by
 apply Array.toList_inj.1; simp

theorem evalOp_calm {P : Program} {call : CallF} {om : FuncId → List Nat} {L n : Nat} {o : Oper} {c : Ctx} {s : Slots} {a : Act} (hR : Rel c) (hs : SR c n s a) {re : Res} (hc : calm o.op = true)
  (h : evalOp P call om L o s c.S = some re) : re.S = c.S ∧ ∃ v, Rep c re.t v ∧ ∀ w, (execOp a.eval o).run P w = .ok (.value v) w := by
 unfold evalOp at h
 split at h
 ·rename_i t hr
  obtain ⟨v, rfl, hv, hrun⟩ := ruleA_run hs hr
  cases h
  exact ⟨rfl, v, .sc v hv, hrun⟩
 ·split at h <;> rename_i hop <;> try (rw [hop] at hc; exact absurd (show false = true from hc) Bool.false_ne_true)
  ·rename_i x
   cases hx : ev s x with
   | none => simp [hx] at h
   | some t =>
    simp only [hx, Option.map_some, Option.some.injEq] at h
    subst h
    exact ⟨rfl, _, ev_rep hs hx, fun w => by simp [execOp, hop, Sem.run_pure]⟩
  ·rename_i x
   cases hx : ev s x with
   | none => simp [hx] at h
   | some t =>
    simp only [hx, Option.map_some, Option.some.injEq] at h
    subst h
    exact ⟨rfl, _, ev_rep hs hx, fun w => by simp [execOp, hop, Sem.run_pure]⟩
  ·rename_i q x y
   split at h
   ·rename_i b tx ty hq hx hy
    simp only [Option.some.injEq] at h
    subst h
    have e := (ev_rep hs hq).scv
    refine ⟨rfl, if b then a.eval x else a.eval y, ?_, fun w => ?_⟩
    ·cases b
     ·exact ev_rep hs hy
     ·exact ev_rep hs hx
    ·simp [execOp, hop, Sem.run_bind, e, asBool, Sem.run_pure, Result.andThen]
   ·cases h
  ·rename_i op t x y yt
   split at h
   ·rename_i ta tb ha hb
    cases hq : peqT P op t ta tb with
    | none => simp [hq] at h
    | some r =>
     simp only [hq, Option.map_some, Option.some.injEq] at h
     subst h
     exact ⟨rfl, _, .sc _ rfl, fun w => by simp only [execOp, hop]; exact value_run (peqT_run hq (ev_rep hs ha) (ev_rep hs hb) x y w)⟩
   ·cases h
  ·rename_i t ps
   cases hb : buildT P s t ps.toList with
   | none => simp [hb] at h
   | some r =>
    simp only [hb, Option.map_some, Option.some.injEq] at h
    subst h
    obtain ⟨v, hv, hr⟩ := buildT_sound hs hb
    exact ⟨rfl, v, hr, fun w => by simp only [execOp, hop]; exact value_run (hv w)⟩
  ·rename_i x
   split at h
   ·rename_i l off hx
    simp only [Option.some.injEq] at h
    subst h
    have hr := ev_rep hs hx
    refine ⟨rfl, _, hr, fun w => ?_⟩
    cases hv : a.eval x <;> rw [hv] at hr <;> cases hr
    simp [execOp, hop, hv, Sem.run_pure]
   ·cases h
  ·rename_i g fst caps
   split at h
   ·rename_i h0
    cases hx : evL s caps.toList with
    | none => simp [hx] at h
    | some ts =>
     simp only [hx, Option.map_some, Option.some.injEq] at h
     subst h
     have hr := Rep.clo g ts _ (evL_rep hs hx)
     refine ⟨rfl, _, hr, fun w => ?_⟩
     have hf : fst = #[] := Array.eq_empty_of_size_eq_zero h0
     subst hf
     simp only [execOp, hop]
     exact value_run (by simp [Instr.makeFunc, Sem.run_pure, args_map])
   ·cases h
  ·rename_i t x lo hi mx
   split at h
   ·rename_i y hx
    cases hsl : sliceT P s c.S t y lo hi mx with
    | none => simp [hsl] at h
    | some r =>
     simp only [hsl, Option.map_some, Option.some.injEq] at h
     subst h
     obtain ⟨v, hv, hr⟩ := sliceT_sound hs hsl (ev_rep hs hx)
     exact ⟨rfl, v, hr, fun w => by simp only [execOp, hop]; exact value_run (hv w)⟩
   ·cases h
  ·rename_i t x f
   split at h
   ·rename_i y hx
    cases hsl : fieldAddrT P t f y with
    | none => simp [hsl] at h
    | some r =>
     simp only [hsl, Option.map_some, Option.some.injEq] at h
     subst h
     obtain ⟨v, hv, hr⟩ := fieldAddrT_sound hsl (ev_rep hs hx)
     exact ⟨rfl, v, hr, fun w => by simp only [execOp, hop]; exact value_run (hv w)⟩
   ·cases h
  ·rename_i t x f
   split at h
   ·rename_i off n' ft cs hf hx
    split at h
    ·rename_i ag hag
     cases hrd : readAt ag n' cs off with
     | none => simp [hrd] at h
     | some r =>
      simp only [hrd, Option.map_some, Option.some.injEq] at h
      subst h
      obtain ⟨v, hv, hr⟩ := fieldT_field hf (ev_rep hs hx) hag hrd
      exact ⟨rfl, v, hr, fun w => by simp only [execOp, hop]; exact value_run (hv w)⟩
    ·cases h
   ·cases h
  ·rename_i t x i
   split at h
   ·rename_i y j hx hj
    cases hsl : indexAddrT P c.S t y j with
    | none => simp [hsl] at h
    | some r =>
     simp only [hsl, Option.map_some, Option.some.injEq] at h
     subst h
     obtain ⟨v, hv, hr⟩ := indexAddrT_sound hR hsl (ev_rep hs hx) (ev_rep hs hj)
     exact ⟨rfl, v, hr, fun w => by simp only [execOp, hop]; exact value_run (hv w)⟩
   ·cases h
  ·rename_i x j
   split at h
   ·rename_i ts hx
    cases hj : ts[j]? with
    | none => simp [hj] at h
    | some r =>
     simp only [hj, Option.map_some, Option.some.injEq] at h
     subst h
     have hr := ev_rep hs hx
     generalize hxv : a.eval x = xv at hr
     cases hr with
     | tup _ vs hl =>
      obtain ⟨v, hv, hrv⟩ := hl.get hj
      refine ⟨rfl, v, hrv, fun w => ?_⟩
      simp only [execOp, hop]
      refine value_run ?_
      simp [Instr.extract, hxv, hv, Sem.run_pure]
   ·cases h
  ·rename_i cl
   split at h
   ·rename_i sz xs hb hx
    split at h
    ·rename_i t ht
     cases he : elemT P t with
     | none => simp [he] at h
     | some e =>
      simp only [he, Option.map_some, Option.some.injEq] at h
      subst h
      obtain ⟨k, hk⟩ := builtin_run (P := P) (a := a) hop hb
      have hr := evL_rep hs hx
      refine ⟨rfl, _, .sc _ rfl, fun w => ?_⟩
      rw [hk w, args_map]
      generalize cl.args.toList.map a.eval = vs at hr
      cases hr with
      | cons _ v _ vs hr hn =>
       cases hn
       have ht' : cl.argTypes = #[t] := Array.toList_inj.1 ht
       rw [ht']
       refine value_run ?_
       cases hr with
       | lst0 _ A cap => exact len_run he w
       | lst _ _ b o cap vs hsb hE hc hcap => exact len_run he w
    ·cases h
   ·rename_i l g off len hb hx
    split at h
    ·rename_i t ht
     cases he : elemT P t with
     | none => simp [he] at h
     | some e =>
      simp only [he, Option.map_some, Option.some.injEq] at h
      subst h
      obtain ⟨k, hk⟩ := builtin_run (P := P) (a := a) hop hb
      have hr := evL_rep hs hx
      refine ⟨rfl, _, .sc _ rfl, fun w => ?_⟩
      rw [hk w, args_map]
      generalize cl.args.toList.map a.eval = vs at hr
      cases hr with
      | cons _ v _ vs hr hn =>
       cases hn
       have ht' : cl.argTypes = #[t] := Array.toList_inj.1 ht
       rw [ht']
       refine value_run ?_
       cases hr with
       | own _ _ _ _ A cap ho => exact len_run he w
    ·cases h
   ·rename_i hb hx; rw [hop] at hc; obtain ⟨ce, ar, at_⟩ := cl; simp only at hb; subst hb; simp [calm] at hc
   ·rename_i hb hx; rw [hop] at hc; obtain ⟨ce, ar, at_⟩ := cl; simp only at hb; subst hb; simp [calm] at hc
   ·rename_i hb hx; rw [hop] at hc; obtain ⟨ce, ar, at_⟩ := cl; simp only at hb; subst hb; simp [calm] at hc
   ·rename_i hb hx; rw [hop] at hc; obtain ⟨ce, ar, at_⟩ := cl; simp only at hb; subst hb; simp [calm] at hc
   ·rename_i hb hx; rw [hop] at hc; obtain ⟨ce, ar, at_⟩ := cl; simp only at hb; subst hb; simp [calm] at hc
   ·rename_i hb hx; rw [hop] at hc; obtain ⟨ce, ar, at_⟩ := cl; simp only at hb; subst hb; simp [calm] at hc
   ·cases h
  ·cases h

end Go.TM
