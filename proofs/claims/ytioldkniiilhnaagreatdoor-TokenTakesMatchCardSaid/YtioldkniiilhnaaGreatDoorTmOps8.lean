/- One operation, whatever it is. -/
import Derived.Test.YtioldkniiilhnaaGreatDoorTmOps7
set_option linter.all false
namespace Go.TM
open Go
set_option linter.unusedVariables false
set_option linter.unusedSimpArgs false

theorem wp_value {P : Program} {o : Oper} {a : Act} {w w' : World} {v : Value} {K : Act → World → Prop} {Q : Exit → Act → World → Prop} (h : (execOp a.eval o).run P w = .ok (.value v) w') (hk : K (a.put o.dst v) w') : o.wp P a w K Q := by
 simp only [Oper.wp, h, Oper.upon]; exact hk

theorem wp_skip' {P : Program} {o : Oper} {a : Act} {w w' : World} {K : Act → World → Prop} {Q : Exit → Act → World → Prop} (h : (execOp a.eval o).run P w = .ok .skip w') (hk : K (a.put o.dst undef) w') : o.wp P a w K Q := by
 simp only [Oper.wp, h, Oper.upon]; exact hk

theorem callFunc_run {P : Program} {f : FuncId} (h : Entered P f) (args : Array Value) (w : World) : (callFunc f args).run P w = .ok (.enter f args) w := by
 obtain ⟨fn, h1, h2, h3⟩ := h
 have h2' : fn.name ≠ "runtime.NumGoroutine" := by simpa using h2
 have h3' : fn.body ≠ none := by intro e; rw [e] at h3; cases h3
 simp only [callFunc]
 simp [h1, h2', h3']

theorem call_run {P : Program} {a : Act} {o : Oper} {c : Call} {x : Operand} {f : FuncId} {fst caps : Array Value} (ho : o.op = .call c) (hc : c.callee = .value x) (hx : a.eval x = .func (.func f) fst caps) (hf : Entered P f) (w : World) :
  (execOp a.eval o).run P w = .ok (.enter f (fst ++ c.args.map a.eval ++ caps)) w := by
 simp only [execOp, ho, resolve, hc, hx, Deferred.ofValue]
 simp only [Sem.run_bind, Sem.run_pure, Result.andThen, invoke]
 exact callFunc_run hf _ w

theorem evalOp_sound {P : Program} {γ : Glob} {call : CallF} (hcall : CallOk P γ call) {om : FuncId → List Nat} {L n : Nat} {o : Oper} {c : Ctx} {s : Slots} {a : Act} (hi : Inv L c) (hg : Good γ c) (hs : SR c n s a) {re : Res}
  (h : evalOp P call om L o s c.S = some re) {K : Act → World → Prop} {Q : Exit → Act → World → Prop} (hK : ∀ v c', Stp L c re.S re.t v c' → K (a.put o.dst v) c'.w) : o.wp P a c.w K Q := by
 have hR := hi.rel
 have hL := hi.lev
 by_cases hc : calm o.op = true
 ·obtain ⟨h1, v, h2, h3⟩ := evalOp_calm hR hs hc h
  exact wp_value (h3 c.w) (hK v c (by rw [h1]; exact .same hR hL h2))
 ·unfold evalOp at h
  split at h
  ·rename_i t hr
   obtain ⟨v, rfl, hv, hrun⟩ := ruleA_run hs hr
   cases h
   exact wp_value (hrun c.w) (hK v c (.same hR hL (.sc v hv)))
  ·split at h <;> rename_i hop <;> try (rw [hop] at hc; exact absurd rfl hc)
   ·rename_i e
    split at h
    ·rename_i z hz
     obtain ⟨v, c', hrun, hst⟩ := alloc_sound (P := P) hR hL hz h
     exact wp_value (by simp only [execOp, hop]; exact value_run hrun) (hK v c' hst)
    ·cases h
   ·rename_i e x
    split at h
    ·rename_i t hx
     obtain ⟨v, c', hrun, hst⟩ := box_sound (P := P) (e := e) hR hL (ev_rep hs hx) h
     exact wp_value (by simp only [execOp, hop]; exact value_run hrun) (hK v c' hst)
    ·cases h
   ·rename_i t len ps
    obtain ⟨v, c', hrun, hst⟩ := buildSliceT_sound hR hL hs h
    exact wp_value (by simp only [execOp, hop]; exact value_run hrun) (hK v c' hst)
   ·rename_i t x
    split at h
    ·rename_i y hx
     obtain ⟨v, hrun, hst⟩ := loadT_sound hR hL h (ev_rep hs hx)
     exact wp_value (by simp only [execOp, hop]; exact value_run hrun) (hK v c hst)
    ·cases h
   ·rename_i t x y
    split at h
    ·rename_i tx ty hx hy
     obtain ⟨c', hrun, hst⟩ := storeT_sound hR hL h (ev_rep hs hx) (ev_rep hs hy)
     exact wp_skip' (by simp only [execOp, hop]; exact skip_run hrun) (hK undef c' hst)
    ·cases h
   ·rename_i src dst x
    split at h
    ·rename_i t hx
     obtain ⟨v, c', hrun, hst⟩ := convT_sound (P := P) hR hL h (ev_rep hs hx)
     exact wp_value (by simp only [execOp, hop]; exact value_run hrun) (hK v c' hst)
    ·cases h
   ·rename_i t l cp
    split at h
    ·rename_i x y hx hy
     obtain ⟨v, c', hrun, hst⟩ := makeT_sound (P := P) hR hL h (ev_rep hs hx) (ev_rep hs hy)
     exact wp_value (by simp only [execOp, hop]; exact value_run hrun) (hK v c' hst)
    ·cases h
   ·rename_i cl
    split at h
    ·rename_i hb hx; exfalso; rw [hop] at hc; obtain ⟨ce, ar, at_⟩ := cl; simp only at hb; subst hb; exact hc rfl
    ·rename_i hb hx; exfalso; rw [hop] at hc; obtain ⟨ce, ar, at_⟩ := cl; simp only at hb; subst hb; exact hc rfl
    ·rename_i x y hb hx
     split at h
     ·rename_i t u ht
      obtain ⟨k, hk⟩ := builtin_run (P := P) (a := a) hop hb
      have hr := evL_rep hs hx
      have hargs := args_map (a := a) (xs := cl.args)
      generalize cl.args.toList.map a.eval = vs at hr hargs
      cases hr with
      | cons _ v1 _ vs h1 hr =>
       cases hr with
       | cons _ v2 _ vs h2 hr =>
        cases hr
        obtain rfl := h2.scv
        obtain ⟨v, c', hrun, hst⟩ := appendS_sound (P := P) (ty := o.type) hR hL h h1
        have ht' : cl.argTypes = #[t, u] := Array.toList_inj.1 ht
        exact wp_value (by rw [hk, hargs, ht']; exact value_run hrun) (hK v c' hst)
     ·cases h
    ·rename_i x hb hx
     obtain ⟨k, hk⟩ := builtin_run (P := P) (a := a) hop hb
     have hr := evL_rep hs hx
     have hargs := args_map (a := a) (xs := cl.args)
     generalize cl.args.toList.map a.eval = vs at hr hargs
     cases hr with
     | cons _ v1 _ vs h1 hr =>
      cases hr
      cases hq : usdT c.S x with
      | none => simp [hq] at h
      | some t =>
       simp only [hq, Option.map_some, Option.some.injEq] at h
       subst h
       obtain ⟨v, hrun, hst⟩ := usdT_sound (P := P) (L := L) (ts := cl.argTypes) (ty := o.type) hR hL hq h1
       exact wp_value (by rw [hk, hargs]; exact value_run hrun) (hK v c hst)
    ·rename_i x y hb hx
     split at h
     ·rename_i t u ht
      obtain ⟨k, hk⟩ := builtin_run (P := P) (a := a) hop hb
      have hr := evL_rep hs hx
      have hargs := args_map (a := a) (xs := cl.args)
      generalize cl.args.toList.map a.eval = vs at hr hargs
      cases hr with
      | cons _ v1 _ vs h1 hr =>
       cases hr with
       | cons _ v2 _ vs h2 hr =>
        cases hr
        cases hq : ustrT P c.S t x y with
        | none => simp [hq] at h
        | some p =>
         obtain ⟨r, S1⟩ := p
         simp only [hq, Option.map_some, Option.some.injEq] at h
         subst h
         obtain ⟨v, c', hrun, hst⟩ := ustrT_sound (P := P) (L := L) (it := u) (ty := o.type) hR hL hq h1 h2
         have ht' : cl.argTypes = #[t, u] := Array.toList_inj.1 ht
         exact wp_value (by rw [hk, hargs, ht']; exact value_run hrun) (hK v c' hst)
     ·cases h
    ·rename_i x y hb hx
     split at h
     ·rename_i t u ht
      obtain ⟨k, hk⟩ := builtin_run (P := P) (a := a) hop hb
      have hr := evL_rep hs hx
      have hargs := args_map (a := a) (xs := cl.args)
      generalize cl.args.toList.map a.eval = vs at hr hargs
      cases hr with
      | cons _ v1 _ vs h1 hr =>
       cases hr with
       | cons _ v2 _ vs h2 hr =>
        cases hr
        obtain ⟨v, c', hrun, hst⟩ := appendT_sound (P := P) (ty := o.type) hR hL h h1 h2
        have ht' : cl.argTypes = #[t, u] := Array.toList_inj.1 ht
        exact wp_value (by rw [hk, hargs, ht']; exact value_run hrun) (hK v c' hst)
     ·cases h
    ·rename_i x y hb hx
     split at h
     ·rename_i t u ht
      obtain ⟨k, hk⟩ := builtin_run (P := P) (a := a) hop hb
      have hr := evL_rep hs hx
      have hargs := args_map (a := a) (xs := cl.args)
      generalize cl.args.toList.map a.eval = vs at hr hargs
      cases hr with
      | cons _ v1 _ vs h1 hr =>
       cases hr with
       | cons _ v2 _ vs h2 hr =>
        cases hr
        obtain ⟨v, c', hrun, hst⟩ := copyT_sound (P := P) (u := u) (ty := o.type) hR hL h h1 h2
        have ht' : cl.argTypes = #[t, u] := Array.toList_inj.1 ht
        exact wp_value (by rw [hk, hargs, ht']; exact value_run hrun) (hK v c' hst)
     ·cases h
    ·rename_i x args hb hx
     split at h
     ·rename_i t ht
      have hr := ev_rep hs ht
      have ha := evL_rep hs hx
      have hargs := args_map (a := a) (xs := cl.args)
      generalize cl.args.toList.map a.eval = avs at ha hargs
      have fin : ∀ (g : FuncId) (fst : Array Value) (caps : List T) (cvs : List Value), fst = #[] → a.eval x = .func (.func g) fst cvs.toArray → RepL c caps cvs →
        goT call om L o.dst c.S g args caps = some re → o.wp P a c.w K Q := by
       intro g fst caps cvs hf0 hev hcv hgo
       subst hf0
       obtain ⟨hent, hcl⟩ := goT_sound hcall hi hg hgo ha hcv
       have hrun := call_run (P := P) (a := a) hop hb hev hent c.w
       simp only [Oper.wp, hrun, Oper.upon]
       rw [hargs]
       have e : (#[] : Array Value) ++ avs.toArray ++ cvs.toArray = (avs ++ cvs).toArray := by simp
       rw [e]
       refine Calls.mono hcl fun en w' he => ?_
       cases en with
       | panicked ch => exact he.elim
       | outgrown => exact he.elim
       | returned v =>
        obtain ⟨c', rfl, hst⟩ := he
        exact hK v c' hst
      cases hne : isNoEscO P x with
      | true =>
       simp only [hne, cond_true] at h
       split at h
       ·rename_i l off
        simp only [Option.some.injEq] at h
        subst h
        cases ha with
        | cons _ v1 _ vs h1 hr1 =>
         cases hr1
         obtain ⟨g, rfl⟩ : ∃ g, x = .func g := by
          unfold isNoEscO at hne
          split at hne
          ·exact ⟨_, rfl⟩
          ·cases hne
         simp only [ev, Option.some.injEq] at ht
         subst ht
         have hr' : a.eval (.func g) = .func (.func g) #[] #[] := hr.scv
         refine wp_value (w' := c.w) ?_ (hK v1 c (.same hR hL h1))
         simp only [execOp, hop, resolve, hb, hr', Deferred.ofValue]
         simp only [Sem.run_bind, Sem.run_pure, Result.andThen, invoke]
         rw [hargs]
         exact noEsc_run (f0 := #[]) (c0 := #[]) hne v1 c.w
       ·cases h
      | false =>
      simp only [hne, cond_false] at h
      unfold callT at h
      split at h
      ·rename_i g f0 c0
       cases hr' : a.eval x <;> rw [hr'] at hr <;> cases hr
       rename_i hsc
       simp only [isSc, Bool.and_eq_true, beq_iff_eq] at hsc
       have h1 := Array.eq_empty_of_size_eq_zero hsc.1
       have h2 := Array.eq_empty_of_size_eq_zero hsc.2
       refine fin g f0 [] [] h1 ?_ .nil h
       rw [hr', h2]
      ·rename_i g caps
       cases hr' : a.eval x <;> rw [hr'] at hr <;> cases hr
       rename_i cvs hl
       exact fin g _ caps cvs rfl hr' hl h
      ·cases h
     ·cases h
    ·cases h
   ·cases h

end Go.TM
