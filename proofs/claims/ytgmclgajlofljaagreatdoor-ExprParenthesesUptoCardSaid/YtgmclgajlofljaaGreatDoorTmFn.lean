/- A whole call; and what calls come to. -/
import Derived.Test.YtgmclgajlofljaaGreatDoorTmCode
set_option linter.all false
namespace Go.TM
open Go
def resOf (tmps : Array Value) : ResultVar → Sem Value := fun
 | .tmp t => pure (tmps.getD t undef)
 | .cell a t => do loadVar t (← asAddr (tmps.getD a undef))
theorem resT_sound {P : Program} {c : Ctx} {L N : Nat} (hi : Inv L c) {s : Slots} {a : Act} (hs : SR c N s a) : ∀ (l : List ResultVar) {ts : List T}, resT P s c.S l = some ts →
  ∃ vs, (l.mapM (resOf a.tmps)).run P c.w = .ok vs c.w ∧ RepL c ts vs
 | [], ts, h => by
  simp only [resT, Option.some.injEq] at h
  subst h
  exact ⟨[], by simp [Sem.run_pure], .nil⟩
 | .tmp t :: r, ts, h => by
  simp only [resT] at h
  cases hr : resT P s c.S r with
  | none => simp [hr] at h
  | some us =>
   simp only [hr, Option.map_some, Option.some.injEq] at h
   subst h
   obtain ⟨vs, h1, h2⟩ := resT_sound hi hs r hr
   refine ⟨a.tmps.getD t undef :: vs, ?_, .cons _ _ _ _ (hs.2.2 t) h2⟩
   rw [List.mapM_cons]
   simp only [resOf, Sem.run_bind, Sem.run_pure, Result.andThen]
   rw [show (r.mapM (resOf a.tmps)).run P c.w = _ from h1]
 | .cell x t :: r, ts, h => by
  simp only [resT] at h
  split at h
  ·rename_i re us hl hr
   simp only [Option.some.injEq] at h
   subst h
   obtain ⟨vs, h1, h2⟩ := resT_sound hi hs r hr
   obtain ⟨v, h3, h4⟩ := loadT_sound hi.rel hi.lev hl (hs.2.2 x)
   refine ⟨v :: vs, ?_, .cons _ _ _ _ ?_ h2⟩
   ·rw [List.mapM_cons]
    have hp : ∃ p, a.tmps.getD x undef = .pointer (some p) := by
     have hrp := hs.2.2 x
     unfold loadT at hl
     split at hl
     ·split at hl
      ·rename_i hg; rw [hg] at hrp; generalize a.tmps.getD x undef = u at hrp; cases hrp; exact ⟨_, rfl⟩
      ·rename_i hg; rw [hg] at hrp; generalize a.tmps.getD x undef = u at hrp; cases hrp; exact ⟨_, rfl⟩
      ·rename_i hg; rw [hg] at hrp; generalize a.tmps.getD x undef = u at hrp; cases hrp; exact ⟨_, rfl⟩
      ·cases hl
     ·cases hl
    obtain ⟨p, hp⟩ := hp
    have h5 : (resOf a.tmps (.cell x t)).run P c.w = .ok v c.w := by
     simp only [resOf, hp, asAddr]
     rw [hp] at h3
     simpa [Instr.loadAt, Instr.sureAddr, Sem.run_bind, Sem.run_pure] using h3
    simp only [Sem.run_bind, h5, Result.andThen]
    rw [show (r.mapM (resOf a.tmps)).run P c.w = _ from h1]
    simp [Result.andThen, Sem.run_pure]
   ·exact h4.rep
  ·cases h
theorem oneT_rep {c : Ctx} {ts : List T} {vs : List Value} (h : RepL c ts vs) : Rep c (oneT ts) (if h : vs.toArray.size = 1 then vs.toArray[0] else .tuple vs.toArray) := by
 cases h with
 | nil => exact .tup _ _ .nil
 | cons x v xs vs hx hr =>
  cases hr with
  | nil => exact hx
  | cons y u ys us hy hr => exact .tup _ _ (.cons _ _ _ _ hx (.cons _ _ _ _ hy hr))
theorem results_sound {P : Program} {c : Ctx} {L N : Nat} (hi : Inv L c) {s : Slots} {a : Act} (hs : SR c N s a) {fn : Func} {ts : List T} (h : resT P s c.S fn.results.toList = some ts) :
  ∃ v, (results fn a.tmps).run P c.w = .ok v c.w ∧ Rep c (oneT ts) v := by
 obtain ⟨vs, h1, h2⟩ := resT_sound hi hs _ h
 refine ⟨_, ?_, oneT_rep h2⟩
 have e : results fn a.tmps = (do let vs ← fn.results.mapM (resOf a.tmps); pure (if h : vs.size = 1 then vs[0] else .tuple vs)) := by
  unfold results
  have : (fun (x : ResultVar) => (match x with
    | .tmp t => pure (a.tmps.getD t undef)
    | .cell x t => do loadVar t (← asAddr (a.tmps.getD x undef)) : Sem Value)) = resOf a.tmps := by
   funext x; cases x <;> rfl
  rw [← this]
  rfl
 rw [e, Array.mapM_eq_mapM_toList]
 simp only [Sem.run_bind, Sem.run_map, h1, Result.andThen, Sem.run_pure]
def XPost (w : World) (r : T) : Ending → World → Prop
 | .returned u, w' => (∀ c, Rep c r u) ∧ Calm w w' ∧ w.heap.size ≤ w'.heap.size ∧ ∀ b, b < w.heap.size → w'.heap[b]? = w.heap[b]?
 | _, _ => False
def XOk (P : Program) (γ : Glob) (X : FuncId → Option (List T → Option T)) : Prop :=
 ∀ f g, X f = some g → Entered P f ∧ ∀ args r, g args = some r → closed r = true → hasLst r = false → ∀ L c vs, Inv L c → Good γ c → RepL c args vs → Calls P f vs.toArray c.w (XPost c.w r)
def NGOk (P : Program) : Prop := ∀ (f : FuncId) fn, P.funcs[f]? = some fn → (fn.name == "runtime.NumGoroutine") = false
theorem get_zip (args : List T) : ∀ (k d : Nat), get ((List.range' k args.length).zip args) d = if k ≤ d then (args[d - k]?).getD .undef else .undef := by
 induction args with
 | nil => intro k d; simp [get]
 | cons x xs ih =>
  intro k d
  rw [List.length_cons, List.range'_succ, List.zip_cons_cons, get_cons, ih]
  by_cases e : d = k
  ·subst e; simp
  ·simp only [e, if_false]
   by_cases h : k ≤ d
   ·have h1 : k + 1 ≤ d := by omega
    have h2 : d - k = (d - (k + 1)) + 1 := by omega
    rw [if_pos h1, if_pos h, h2, List.getElem?_cons_succ]
   ·have h1 : ¬ k + 1 ≤ d := by omega
    rw [if_neg h1, if_neg h]
theorem RepL.get_none {c : Ctx} {ts : List T} {vs : List Value} (h : RepL c ts vs) {i : Nat} (hi : ts[i]? = none) : vs[i]? = none := by
 have := h.length
 rw [List.getElem?_eq_none_iff] at hi ⊢
 omega
theorem snapR_rep {c c' : Ctx} (hR : Rel c) (hk : Kept c c') (hw : c'.w = c.w) {t u : T} {ls : List Loc} {v : Value} (h : snapR c.S t = some (u, ls)) (hv : Rep c t v) : SnapOk c ls ∧ ((∀ l ∈ ls, c'.Sh (c.β l)) → Rep c' u v) := by
 cases t with
 | tup cs =>
  cases hv with
  | tup _ vs hl =>
   simp only [snapR] at h
   split at h
   ·rename_i ds ls' hd
    simp only [Option.some.injEq, Prod.mk.injEq] at h
    obtain ⟨rfl, rfl⟩ := h
    obtain ⟨h1, h2⟩ := snapL_rep hR hk hw cs hd hl
    exact ⟨h1, fun hsh => .tup _ _ (h2 hsh)⟩
   ·cases h
 | _ => exact snap_rep hR hk hw _ h hv
theorem fnStep_sound {E : Env} {γ : Glob} {call : CallF} (hcall : CallOk E.P γ call) (hX : XOk E.P γ E.X) (hN : NGOk E.P) : CallOk E.P γ (fnStep E call) := by
 intro L f ts S r S' h
 unfold fnStep at h
 split at h
 ·rename_i g hg
  cases hv : g ts with
  | none => simp [hv] at h
  | some v =>
   simp only [hv, Option.bind_some] at h
   split at h
   ·rename_i hc
    simp only [Bool.and_eq_true, Bool.not_eq_true'] at hc
    simp only [Option.some.injEq, Prod.mk.injEq] at h
    obtain ⟨rfl, rfl⟩ := h
    obtain ⟨h1, h2⟩ := hX f g hg
    refine ⟨h1, fun c vs hS hi hgd hr => Calls.mono (h2 ts v hv hc.1.1 hc.1.2 L c vs hi hgd hr) fun e w' he => ?_⟩
    cases e with
    | panicked ch => exact he.elim
    | outgrown => exact he.elim
    | returned u =>
     obtain ⟨hrep, hcalm, hsz, hw⟩ := he
     obtain ⟨a1, a2, a3⟩ := late hi (Sh' := c.Sh) hcalm hsz hw (fun b h => h) (fun b hb => Nat.lt_of_lt_of_le (hi.rel.lt b hb) hsz) (fun b h => .inl h)
     exact ⟨_, rfl, ⟨⟨a1.rel, fun l hl => Nat.le_succ_of_le (a1.lev l hl), a1.full⟩, hS, hrep _, a2, a3, fun l hl => .inl hl⟩⟩
   ·cases h
 ·split at h
  ·rename_i fn hf
   split at h
   ·rename_i code hb
    split at h
    ·rename_i hlen
     refine ⟨⟨fn, hf, hN f fn hf, by rw [hb]; rfl⟩, fun c vs hS hi hgd hr => ?_⟩
     have hvl := hr.length
     have hsr : SR c fn.ntmps ((List.range ts.length).zip ts) { tmps := vs.toArray ++ Array.replicate (fn.ntmps - vs.toArray.size) undef, defers := [] } := by
      refine ⟨by simp; omega, rfl, fun d => ?_⟩
      rw [List.range_eq_range', get_zip]
      simp only [Nat.zero_le, if_true, Nat.sub_zero]
      rw [Array.getD_eq_getD_getElem?]
      cases ht : ts[d]? with
      | none => exact .undef _
      | some t =>
       obtain ⟨v, hv, hrv⟩ := hr.get ht
       have hd := (List.getElem?_eq_some_iff.1 hv).1
       rw [Array.getElem?_append_left (by simpa using hd)]
       simp only [List.getElem?_toArray, hv, Option.getD_some]
       exact hrv
     have hat : At γ L fn.ntmps c ⟨(List.range ts.length).zip ts, S⟩ c { tmps := vs.toArray ++ Array.replicate (fn.ntmps - vs.toArray.size) undef, defers := [] } :=
      ⟨⟨hi.rel, fun l hl => Nat.le_succ_of_le (hi.lev l hl), hi.full⟩, hS, hgd, hsr, cut_kept_self L (.refl c), .refl c, fun l hl => .inl hl⟩
     have main : ∀ x st, evalC E.P call E.om (E.an f) (L + 1) fn.ntmps code ⟨(List.range ts.length).zip ts, S⟩ = some (x, st) → (∀ id, x ≠ .exit id) →
       (match resT E.P st.s st.S fn.results.toList with
        | some ts => hand (E.an f 3000005).fu (L + 1) (oneT ts) st.S
        | none => none) = some (r, S') → Calls E.P f vs.toArray c.w (CallPost L c r S') := by
      intro x st he hx hres
      split at hres
      ·rename_i us hus
       refine calls_of_wp hf hb (wp_mono (evalC_sound hcall code he hat) fun e a' w' hq => ?_)
       obtain ⟨rfl, c', rfl, hat'⟩ := hq
       rw [← hat'.S] at hus hres
       obtain ⟨v, h1, h2⟩ := results_sound (P := E.P) hat'.inv hat'.sr hus
       have hpk : ∃ c2, c2.w = c'.w ∧ Left L c r S' v c2 := by
        cases hz : (E.an f 3000005).fu with
        | false =>
         rw [hz] at hres
         exact pack_sound hat'.inv hi.lev hi.full hat'.kept hat'.fr hat'.new h2 hres
        | true =>
         rw [hz] at hres
         simp only [hand, cond_true] at hres
         split at hres
         ·rename_i u ls hsn
          have hk := ctxShut_kept c' ls
          obtain ⟨a1, a2⟩ := snapR_rep hat'.inv.rel hk rfl hsn h2
          have hu := a2 (ctxShut_sh a1)
          obtain ⟨c2, hw2, hl2⟩ := pack_sound (inv_shut hat'.inv ls) hi.lev hi.full (hat'.kept.trans hk) (hat'.fr.trans (ctxShut_fr hat'.inv.rel ls)) hat'.new hu hres
          exact ⟨c2, hw2, hl2⟩
         ·cases hres
       obtain ⟨c2, hw2, hl2⟩ := hpk
       cases x with
       | exit id => exact absurd rfl (hx id)
       | nrm => exact ⟨hat'.sr.2.1, v, h1, c2, hw2, hl2⟩
       | ret => exact ⟨hat'.sr.2.1, v, h1, c2, hw2, hl2⟩
      ·cases hres
     split at h
     ·cases h
     ·cases h
     ·rename_i x st hne he
      exact main x st he (fun id e => hne id e) h
    ·cases h
   ·cases h
  ·cases h
theorem evalFn_sound {E : Env} {γ : Glob} (hX : XOk E.P γ E.X) (hN : NGOk E.P) : ∀ k, CallOk E.P γ (evalFn E k)
 | 0 => fun L f ts S r S' h => by simp [evalFn] at h
 | k + 1 => fnStep_sound (evalFn_sound hX hN k) hX hN
theorem callF_sound {E : Env} {γ : Glob} (hX : XOk E.P γ E.X) (hN : NGOk E.P) : CallOk E.P γ (callF E) := fun L f ts S r S' h => by
 obtain ⟨k, hk⟩ := lim_some h
 exact evalFn_sound hX hN k L f ts S r S' hk
end Go.TM
