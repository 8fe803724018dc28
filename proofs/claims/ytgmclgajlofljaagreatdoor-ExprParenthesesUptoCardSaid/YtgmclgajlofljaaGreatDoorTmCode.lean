/- Regions in their order, drawn regions in any, and the code around them. -/
import Derived.Test.YtgmclgajlofljaaGreatDoorTmOps5
set_option linter.all false
namespace Go.TM
open Go
structure At (γ : Glob) (L N : Nat) (c0 : Ctx) (st : St) (c : Ctx) (a : Act) : Prop where
 inv : Inv (L + 1) c
 S : c.S = st.S
 good : Good γ c
 sr : SR c N st.s a
 kept : Kept (cut L c0) c
 fr : Fr c0 c
 new : ∀ l, c.D l → c0.D l ∨ 1 ≤ l.1
theorem At.step {γ : Glob} {L N : Nat} {c0 : Ctx} {st : St} {c c' : Ctx} {a : Act} (h : At γ L N c0 st c a) {S' : Store} {t : T} {v : Value} (hst : Stp (L + 1) c S' t v c') {d : Option Tmp} {s' : Slots}
  (hp : putT N st.s d t = some s') : At γ L N c0 ⟨s', S'⟩ c' (a.put d v) :=
 ⟨⟨hst.rel, hst.lev, hst.full h.inv.full⟩, hst.S, h.good.kept hst.kept.sh, (h.sr.kept hst.kept).put hp hst.rep, h.kept.trans hst.kept, h.fr.trans hst.fr,
  fun l hl => (hst.new l hl).elim (h.new l) fun h => .inr (by rcases h with h | h <;> omega)⟩
theorem At.eq {γ : Glob} {L N : Nat} {c0 : Ctx} {st fin : St} {c : Ctx} {a : Act} (h : At γ L N c0 st c a) (he : stEq st fin) : At γ L N c0 fin c a :=
 ⟨h.inv, h.S.trans he.1, h.good, ⟨h.sr.1, h.sr.2.1, fun d => by rw [← he.2 d]; exact h.sr.2.2 d⟩, h.kept, h.fr, h.new⟩
theorem want_sound {c : Ctx} {N : Nat} {s : Slots} {a : Act} (hs : SR c N s a) {ops : Array Oper} {o : Oper} {b : Bool} (h : want ops s o = some b) : Region.wanted o (yielded ops a.tmps) = b := by
 unfold want at h
 unfold Region.wanted
 cases hg : o.guard with
 | none => simpa [hg] using h
 | some jw =>
  obtain ⟨j, w⟩ := jw
  simp only [hg] at h ⊢
  cases hd : (ops[j]?).bind (·.dst) with
  | none => simp [hd] at h
  | some d =>
   simp only [hd, Option.map_some] at h
   have hr := hs.2.2 d
   unfold yielded
   simp only [hd, Option.bind_some]
   split at h
   ·rename_i q hq
    simp only [Option.some.injEq] at hq h
    rw [hq] at hr
    have hv := hr.scv
    subst h
    rw [Array.getD_eq_getD_getElem?] at hv
    cases ht : a.tmps[d]? with
    | none => rw [ht] at hv; cases hv
    | some v =>
     rw [ht] at hv
     simp only [Option.getD_some] at hv
     subst hv
     cases q <;> cases w <;> rfl
   ·rename_i hq
    simp only [Option.some.injEq] at hq h
    rw [hq] at hr
    subst h
    rw [Array.getD_eq_getD_getElem?] at hr
    cases ht : a.tmps[d]? with
    | none => rfl
    | some v =>
     rw [ht] at hr
     simp only [Option.getD_some] at hr
     cases hr
     rfl
   ·cases h
theorem stepOp_sound {P : Program} {γ : Glob} {call : CallF} (hcall : CallOk P γ call) {om : FuncId → List Nat} {L N : Nat} {ops : Array Oper} {i : Nat} {c0 : Ctx} {st st' : St} {c : Ctx} {a : Act}
  (h : stepOp P call om (L + 1) N ops i st = some st') (hat : At γ L N c0 st c a) {K : Act → World → Prop} {Q : Exit → Act → World → Prop} (hK : ∀ a' c', At γ L N c0 st' c' a' → K a' c'.w) :
  wpOp P ops Q i K a c.w := by
 unfold stepOp at h
 unfold wpOp
 cases ho : ops[i]? with
 | none => simp [ho] at h
 | some o =>
  simp only [ho] at h ⊢
  cases hw : want ops st.s o with
  | none => simp [hw] at h
  | some b =>
   have hwant := want_sound hat.sr hw
   cases b with
   | true =>
    simp only [hw] at h
    rw [hwant, if_pos rfl]
    cases he : evalOp P call om (L + 1) o st.s st.S with
    | none => simp [he] at h
    | some re =>
     simp only [he] at h
     cases hp : putT N st.s o.dst re.t with
     | none => simp [hp] at h
     | some s' =>
      simp only [hp, Option.map_some, Option.some.injEq] at h
      subst h
      exact .inl (evalOp_sound hcall hat.inv hat.good hat.sr (by rw [hat.S]; exact he) fun v c' hst => hK _ c' (hat.step hst hp))
   | false =>
    simp only [hw] at h
    rw [hwant, if_neg (by simp)]
    cases hp : putT N st.s o.dst (.tup []) with
    | none => simp [hp] at h
    | some s' =>
     simp only [hp, Option.map_some, Option.some.injEq] at h
     subst h
     have hst : Stp (L + 1) c c.S (.tup []) undef c := .same hat.inv.rel hat.inv.lev (.tup _ _ .nil)
     have := hat.step hst hp
     rw [hat.S] at this
     exact hK _ c this
theorem evalOps_sound {P : Program} {γ : Glob} {call : CallF} (hcall : CallOk P γ call) {om : FuncId → List Nat} {L N : Nat} {ops : Array Oper} {c0 : Ctx} {Q : Exit → Act → World → Prop} {fin : St}
  (hQ : ∀ a' c', At γ L N c0 fin c' a' → Q .normal a' c'.w) : ∀ (l : List Nat) {st : St} {c : Ctx} {a : Act}, evalOps P call om (L + 1) N ops l st = some fin → At γ L N c0 st c a → wpOps P ops Q l a c.w
 | [], st, c, a, h, hat => by
  simp only [evalOps, Option.some.injEq] at h
  subst h
  exact hQ a c hat
 | i :: r, st, c, a, h, hat => by
  simp only [evalOps] at h
  split at h
  ·rename_i st' hs
   rw [wpOps_cons]
   exact stepOp_sound hcall hs hat fun a' c' hat' => evalOps_sound hcall hQ r h hat'
  ·cases h
theorem stepOp_yields {P : Program} {call : CallF} {om : FuncId → List Nat} {γ : Glob} {L N : Nat} {ops : Array Oper} {i : Nat} {o : Oper} {c0 : Ctx} {st st' : St} {c : Ctx} {a : Act} (ho : ops[i]? = some o) (hc : calm o.op = true)
  (h : stepOp P call om (L + 1) N ops i st = some st') (hat : At γ L N c0 st c a) : ∃ v, Yields P ops o v a ∧ At γ L N c0 st' c (a.put o.dst v) := by
 unfold stepOp at h
 simp only [ho] at h
 cases hw : want ops st.s o with
 | none => simp [hw] at h
 | some b =>
  have hwant := want_sound hat.sr hw
  cases b with
  | true =>
   simp only [hw] at h
   cases he : evalOp P call om (L + 1) o st.s st.S with
   | none => simp [he] at h
   | some re =>
    simp only [he] at h
    cases hp : putT N st.s o.dst re.t with
    | none => simp [hp] at h
    | some s' =>
     simp only [hp, Option.map_some, Option.some.injEq] at h
     subst h
     obtain ⟨h1, v, h2, h3⟩ := evalOp_calm hat.inv.rel hat.sr hc (by rw [hat.S]; exact he)
     have := hat.step (.same hat.inv.rel hat.inv.lev h2) hp
     rw [h1]
     exact ⟨v, .inl ⟨hwant, h3⟩, this⟩
  | false =>
   simp only [hw] at h
   cases hp : putT N st.s o.dst (.tup []) with
   | none => simp [hp] at h
   | some s' =>
    simp only [hp, Option.map_some, Option.some.injEq] at h
    subst h
    have hst : Stp (L + 1) c c.S (.tup []) undef c := .same hat.inv.rel hat.inv.lev (.tup _ _ .nil)
    have := hat.step hst hp
    rw [hat.S] at this
    exact ⟨undef, .inr ⟨hwant, rfl⟩, this⟩
theorem anyOk_sound {P : Program} {γ : Glob} {call : CallF} (hcall : CallOk P γ call) {om : FuncId → List Nat} {L N : Nat} {ops : Array Oper} {c0 : Ctx} {Q : Exit → Act → World → Prop} {fin : St} (hns : Region.noSelect ops = true)
  (hQ : ∀ a' c', At γ L N c0 fin c' a' → Q .normal a' c'.w) (hp : ∀ ch a w, ¬ Q (.panic ch) a w) {md : Region.Mode} : ∀ (k : Nat) (listed : Array Bool) {st : St} {c : Ctx} {a : Act},
   anyOk P call om (L + 1) N md ops fin k listed st → At γ L N c0 st c a → wpAny P md ops Q k listed a c.w
 | 0, listed, st, c, a, h, hat => ⟨h.1, hQ a c (hat.eq h.2)⟩
 | k + 1, listed, st, c, a, h, hat => by
  rcases h with ⟨h1, h2⟩ | ⟨i, o, st', h1, h2, h3, h4, h5, h6⟩ | ⟨h1, h2⟩
  ·exact wpAny_done h1 (hQ a c (hat.eq h2)) _
  ·obtain ⟨v, hy, hat'⟩ := stepOp_yields h2 h3 h5 hat
   exact wpAny_take h2 hns h4 (by simpa using h1) (fun ch a w hq => (hp ch _ _ hq).elim) hy (anyOk_sound hcall hns hQ hp k _ h6 hat')
  ·refine wpAny_all rfl h1 fun i hi => ?_
   obtain ⟨st', hs, hk⟩ := h2 i hi
   exact stepOp_sound hcall hs hat fun a' c' hat' => anyOk_sound hcall hns hQ hp k _ hk hat'
theorem linearise_sound {P : Program} {γ : Glob} {call : CallF} (hcall : CallOk P γ call) {om : FuncId → List Nat} {L N : Nat} {ops : Array Oper} {c0 : Ctx} {Q : Exit → Act → World → Prop} {st fin : St} (hd : drawOk P call om (L + 1) N ops st fin)
  (hQ : ∀ a' c', At γ L N c0 fin c' a' → Q .normal a' c'.w) (hp : ∀ ch a w, ¬ Q (.panic ch) a w) {c : Ctx} {a : Act} (hat : At γ L N c0 st c a) (m : Bool) (t : Nat) :
  wpOps P ops Q (Region.schedule m ops t) a c.w := by
 unfold Region.schedule
 split
 ·exact wpAny_sound _ _ _ _ _ (anyOk_sound hcall hd.1 hQ hp _ _ (hd.2 _) hat)
 ·split
  ·exact wpAny_sound _ _ _ _ _ (anyOk_sound hcall hd.1 hQ hp _ _ (hd.2 _) hat)
  ·exact wpAny_sound _ _ _ _ _ (anyOk_sound hcall hd.1 hQ hp _ _ (hd.2 _) hat)
theorem At.drew {γ : Glob} {L N : Nat} {c0 : Ctx} {st : St} {c : Ctx} {a : Act} (h : At γ L N c0 st c a) : At γ L N c0 st { c with w := { c.w with drawn := c.w.drawn + 1 } } a := by
 have hk : Kept c { c with w := { c.w with drawn := c.w.drawn + 1 } } :=
  ⟨fun b hb => ⟨hb, rfl⟩, fun l hl => ⟨hl, rfl⟩, fun l ro g sz e xs hS => .inr ⟨ro, g, sz, e, xs, hS, Nat.le_refl _, fun _ => ⟨rfl, rfl, rfl, fun hD => ⟨hD, rfl, fun cur fz hw => ⟨cur, fz, hw, rfl⟩⟩⟩⟩, fun l hl => hl⟩
 have hf : Fr c { c with w := { c.w with drawn := c.w.drawn + 1 } } := ⟨rfl, rfl, rfl, Nat.le_refl _, fun _ _ _ => rfl, fun l hD hm => .inl ⟨hD, hm, rfl⟩, fun b hb => .inl hb⟩
 refine ⟨⟨⟨fun l bt cs hD hS => ?_, fun l ro g sz e xs hD hS => ?_, h.inv.rel.nsh, h.inv.rel.inj, h.inv.rel.lt, h.inv.rel.dom⟩, h.inv.lev, h.inv.full⟩, h.S, h.good.kept hk.sh, h.sr.kept hk, h.kept.trans hk, h.fr.trans hf, h.new⟩
 ·obtain ⟨h1, vs, h3, h4⟩ := h.inv.rel.box l bt cs hD hS
  exact ⟨h1, vs, h3, h4.kept hk⟩
 ·obtain ⟨cur, fz, vs, h1, h2, h3, h4, h5⟩ := h.inv.rel.arr l ro g sz e xs hD hS
  exact ⟨cur, fz, vs, h1, h2, h3, h4.kept hk, h5⟩
def Ex.toExit : Ex → Exit
 | .nrm => .normal
 | .exit id => .exit id
 | .ret => .ret
def Post (γ : Glob) (L N : Nat) (c0 : Ctx) (x : Ex) (st : St) : Exit → Act → World → Prop := fun e a w => e = x.toExit ∧ ∃ c, c.w = w ∧ At γ L N c0 st c a
theorem exists_least {p : Nat → Prop} (h : ∃ n, p n) : ∃ n, p n ∧ ∀ m, p m → n ≤ m := by
 obtain ⟨n, hn⟩ := h
 induction n using Nat.strongRecOn with
 | _ n ih =>
  by_cases hs : ∃ m, m < n ∧ p m
  ·obtain ⟨m, hm, hp⟩ := hs
   exact ih m hm hp
  ·exact ⟨n, hn, fun m hm => Nat.le_of_not_lt fun hlt => hs ⟨m, hlt, hm⟩⟩
open Classical in
theorem wp_loop_n {P : Program} {Q : Exit → Act → World → Prop} {a : Act} {w : World} {c : Code} (J : Nat → Act → World → Prop) {n : Nat} (h0 : J n a w)
  (round : ∀ n a w, J n a w → c.wp P (Exit.then (fun a' w' => ∃ m, m < n ∧ J m a' w') Q) a w) : (Code.loop c).wp P Q a w := by
 refine wp_loop (fun a w => ∃ n, J n a w) (fun a w => if h : ∃ n, J n a w then (exists_least h).choose else 0) ⟨n, h0⟩ fun a w hI => ?_
 have hsp := (exists_least hI).choose_spec
 have := round _ a w hsp.1
 refine wp_mono this fun e a' w' hq => ?_
 cases e with
 | normal =>
  obtain ⟨m, hm, hj⟩ := hq
  refine ⟨⟨m, hj⟩, ?_⟩
  have hex : ∃ n, J n a' w' := ⟨m, hj⟩
  simp only [dif_pos hI, dif_pos hex]
  exact Nat.lt_of_le_of_lt ((exists_least hex).choose_spec.2 m hj) hm
 | _ => exact hq
theorem lim_some {α : Type} {f : Nat → Option α} {x : α} (h : lim f = some x) : ∃ k, f k = some x := by
 unfold lim at h
 split at h
 ·rename_i hx
  simp only [Option.some.injEq] at h
  subst h
  exact hx.choose_spec
 ·cases h
theorem SR.mask {c : Ctx} {n N : Nat} {kl lv : List Nat} {s : Slots} {a : Act} (h : SR c N s a) : SR (maskC n kl c) N (maskL n kl lv s c.S) a := by
 refine ⟨h.1, h.2.1, fun d => ?_⟩
 have key : ∀ lv : List Nat, get (lv.map fun d => (d, rename c.S (maskF n kl) (fun m => m.1 == n) (get s d))) d = .undef ∨
   get (lv.map fun d => (d, rename c.S (maskF n kl) (fun m => m.1 == n) (get s d))) d = rename c.S (maskF n kl) (fun m => m.1 == n) (get s d) := by
  intro lv
  induction lv with
  | nil => exact .inl rfl
  | cons x xs ih =>
   rw [List.map_cons, get_cons]
   by_cases e : d = x
   ·subst e; simp
   ·simp only [e, if_false]; exact ih
 rcases key lv with hk | hk
 ·show Rep _ (get (maskL n kl lv s c.S) d) _
  unfold maskL; rw [hk]; exact .undef _
 ·show Rep _ (get (maskL n kl lv s c.S) d) _
  unfold maskL; rw [hk]
  exact rename_rep (mask_move n kl c) _ (.inl fun b hb => hb) (h.2.2 d)
theorem At.mask {γ : Glob} {L N : Nat} {c0 : Ctx} {st : St} {c : Ctx} {a : Act} (h : At γ L N c0 st c a) (kl lv : List Nat) :
  At γ L N c0 ⟨maskL (L + 1) kl lv st.s st.S, maskS (L + 1) kl st.S⟩ (maskC (L + 1) kl c) a := by
 have hk := mask_kept L kl c
 refine ⟨mask_inv h.inv, by simp [maskC, h.S], h.good.kept hk.sh, ?_, cut_trans h.kept hk, h.fr.trans (mask_fr _ _ _), fun l hl => h.new l hl.1⟩
 have := h.sr.mask (n := L + 1) (kl := kl) (lv := lv)
 rw [h.S] at this
 exact this
theorem snapAll_sound {c : Ctx} (hR : Rel c) {N : Nat} {s : Slots} {a : Act} {c' : Ctx} (hk : Kept c c') (hw : c'.w = c.w) (h : SR c N s a) : ∀ (l : List Nat), SnapOk c (snapAll c.S l s).2 ∧ ((∀ q ∈ (snapAll c.S l s).2, c'.Sh (c.β q)) → SR c' N (snapAll c.S l s).1 a)
 | [] => ⟨(by intro l h; cases h), fun _ => h.kept hk⟩
 | d :: r => by
  obtain ⟨h1, h2⟩ := snapAll_sound hR hk hw h r
  simp only [snapAll]
  split
  ·rename_i u ls hs
   obtain ⟨a1, a2⟩ := snap_rep hR hk hw _ hs (h.2.2 d)
   refine ⟨fun m hm => ?_, fun hsh => ?_⟩
   ·rcases List.mem_append.1 hm with hm | hm
    ·exact a1 m hm
    ·exact h1 m hm
   ·have hu := a2 fun m hm => hsh m (List.mem_append_left _ hm)
    have hr := h2 fun m hm => hsh m (List.mem_append_right _ hm)
    refine ⟨hr.1, hr.2.1, fun d' => ?_⟩
    rw [get_cons]
    by_cases e : d' = d
    ·subst e; simp only [if_true]; exact hu
    ·simp only [e, if_false]; exact hr.2.2 d'
  ·exact ⟨h1, h2⟩
theorem At.shut {γ : Glob} {L N : Nat} {c0 : Ctx} {st : St} {c : Ctx} {a : Act} (h : At γ L N c0 st c a) (l : List Nat) :
  At γ L N c0 ⟨(snapAll st.S l st.s).1, setRo st.S (snapAll st.S l st.s).2⟩ (ctxShut c (snapAll st.S l st.s).2) a := by
 have hk := ctxShut_kept c (snapAll st.S l st.s).2
 obtain ⟨h1, h2⟩ := snapAll_sound h.inv.rel (c' := ctxShut c (snapAll st.S l st.s).2) hk rfl h.sr l
 rw [h.S] at h1 h2
 exact ⟨inv_shut h.inv _, by simp [ctxShut, h.S], h.good.kept hk.sh, h2 (ctxShut_sh h1), h.kept.trans hk, h.fr.trans (ctxShut_fr h.inv.rel _), h.new⟩
mutual
theorem snap_lvle {S : Store} {n : Nat} : ∀ {t u : T} {ls : List Loc}, snap S t = some (u, ls) → lvle n t = true → lvle n u = true
 | .own l g off len, u, ls, h, hl => by
  simp only [snap] at h
  split at h
  ·split at h
   ·simp only [Option.some.injEq, Prod.mk.injEq] at h
    obtain ⟨rfl, _⟩ := h
    simp only [lvle]
   ·cases h
  ·cases h
 | .agg cs, u, ls, h, hl => by
  simp only [snap] at h
  split at h
  ·rename_i ds l hd
   simp only [Option.some.injEq, Prod.mk.injEq] at h
   obtain ⟨rfl, _⟩ := h
   simp only [lvle] at hl ⊢
   exact snapL_lvle hd hl
  ·cases h
 | .undef, u, ls, h, hl | .sc _, u, ls, h, hl | .lst .., u, ls, h, hl | .ptr .., u, ls, h, hl | .lptr .., u, ls, h, hl | .aptr .., u, ls, h, hl | .clo .., u, ls, h, hl | .tup _, u, ls, h, hl => by
  simp only [snap, Option.some.injEq, Prod.mk.injEq] at h
  obtain ⟨rfl, _⟩ := h
  exact hl
theorem snapL_lvle {S : Store} {n : Nat} : ∀ {ts us : List T} {ls : List Loc}, snapL S ts = some (us, ls) → lvleL n ts = true → lvleL n us = true
 | [], us, ls, h, hl => by
  simp only [snapL, Option.some.injEq, Prod.mk.injEq] at h
  obtain ⟨rfl, _⟩ := h
  exact hl
 | x :: xs, us, ls, h, hl => by
  simp only [snapL] at h
  split at h
  ·rename_i y l ys l2 h1 h2
   simp only [Option.some.injEq, Prod.mk.injEq] at h
   obtain ⟨rfl, _⟩ := h
   simp only [lvleL, Bool.and_eq_true] at hl ⊢
   exact ⟨snap_lvle h1 hl.1, snapL_lvle h2 hl.2⟩
  ·cases h
end
theorem At.box {γ : Glob} {L N : Nat} {c0 : Ctx} {st : St} {c : Ctx} {a : Act} (h : At γ L N c0 st c a) {l : Loc} {bt : TypeId} {cs us : List T} {ls : List Loc} (hS : st.S l = some (.box bt cs)) (hs : snapL st.S cs = some (us, ls)) :
  ∃ c', c'.w = c.w ∧ At γ L N c0 ⟨st.s, upd (setRo st.S ls) l (.box bt us)⟩ c' a := by
 have hR := h.inv.rel
 have hk := ctxShut_kept c ls
 have hi1 := inv_shut h.inv ls
 rw [← h.S] at hS hs
 have hD : c.D l := h.inv.full l (by rw [hS]; simp)
 obtain ⟨b1, vs, b2, b3⟩ := hR.box l bt cs hD hS
 obtain ⟨s1, s2⟩ := snapL_rep hR hk rfl cs hs b3
 have hr := s2 (ctxShut_sh s1)
 have hS1 : (ctxShut c ls).S l = some (.box bt cs) := by simp [ctxShut, setRo, hS]
 have hp : PutOk (ctxShut c ls) l (.box bt us) ((ctxShut c ls).β l) c.w := .inl ⟨bt, cs, us, hS1, rfl, rfl⟩
 have hoth : ∀ x, x < (ctxShut c ls).w.heap.size → x ≠ (ctxShut c ls).β l → c.w.heap[x]? = (ctxShut c ls).w.heap[x]? := fun _ _ _ => rfl
 have hk2 := ctxPut_kept hi1.rel hD hp hoth
 have hr2 : Rel (ctxPut (ctxShut c ls) l (.box bt us) ((ctxShut c ls).β l) c.w) := ctxPut_rel hi1.rel hD hp hoth (Nat.le_refl _) (.inl rfl) (cur := vs.toArray) (ty := bt) b2
  (fun bt' cs' e => by injection e with e1 e2; subst e1; subst e2; exact ⟨rfl, snapL_lvle hs b1, vs, rfl, hr⟩) (fun ro g sz e xs e' => by cases e')
 refine ⟨ctxPut (ctxShut c ls) l (.box bt us) ((ctxShut c ls).β l) c.w, rfl, ⟨hr2, h.inv.lev, fun m hm => ?_⟩, ?_, (h.good.kept hk.sh).kept hk2.sh, ?_, ?_, ?_, h.new⟩
 ·by_cases e : m = l
  ·subst e; exact hD
  ·exact hi1.full m (by simpa [ctxPut, upd_ne _ _ e] using hm)
 ·show upd (ctxShut c ls).S l _ = _
  rw [← h.S]; rfl
 ·exact (h.sr.kept hk).kept hk2
 ·exact (h.kept.trans hk).trans hk2
 ·exact (h.fr.trans (ctxShut_fr hR ls)).trans (ctxPut_fr hD hp ⟨rfl, rfl, rfl⟩ hoth (Nat.le_refl _) (.inl rfl))
theorem At.boxOne {γ : Glob} {L N : Nat} {c0 : Ctx} {st : St} {c : Ctx} {a : Act} (h : At γ L N c0 st c a) (M d : Nat) : ∃ c', c'.w = c.w ∧ At γ L N c0 ⟨st.s, Go.TM.boxOne M st.S d⟩ c' a := by
 unfold Go.TM.boxOne
 split
 ·exact ⟨c, rfl, h⟩
 ·split
  ·rename_i bt cs hS
   split
   ·rename_i us ls hs
    exact h.box hS hs
   ·exact ⟨c, rfl, h⟩
  ·exact ⟨c, rfl, h⟩
theorem At.boxAll {γ : Glob} {L N : Nat} {c0 : Ctx} {a : Act} (M : Nat) : ∀ (l : List Nat) {st : St} {c : Ctx}, At γ L N c0 st c a → ∃ c', c'.w = c.w ∧ At γ L N c0 ⟨st.s, Go.TM.boxAll M l st.S⟩ c' a
 | [], st, c, h => ⟨c, rfl, h⟩
 | d :: l, st, c, h => by
  obtain ⟨c1, w1, h1⟩ := h.boxOne M d
  obtain ⟨c2, w2, h2⟩ := At.boxAll M l h1
  exact ⟨c2, w2.trans w1, h2⟩
theorem At.head {γ : Glob} {L N : Nat} {c0 : Ctx} {st : St} {c : Ctx} {a : Act} (h0 : At γ L N c0 st c a) (hd : Head) : ∃ c', c'.w = c.w ∧ At γ L N c0 (headSt (L + 1) hd st) c' a := by
 obtain ⟨c1, w1, h⟩ := At.boxAll (L + 1) hd.sn h0
 exact ⟨maskC (L + 1) hd.kl (ctxShut c1 (snapAll (Go.TM.boxAll (L + 1) hd.sn st.S) hd.sn st.s).2), w1, (h.shut hd.sn).mask hd.kl hd.lv⟩
theorem At.keep {γ : Glob} {L N : Nat} {c0 : Ctx} {st : St} {c : Ctx} {a : Act} (h : At γ L N c0 st c a) (lv : List Nat) : At γ L N c0 ⟨keepL lv st.s, st.S⟩ c a := by
 refine ⟨h.inv, h.S, h.good, ⟨h.sr.1, h.sr.2.1, fun d => ?_⟩, h.kept, h.fr, h.new⟩
 have key : get (keepL lv st.s) d = .undef ∨ get (keepL lv st.s) d = get st.s d := by
  induction lv with
  | nil => exact .inl rfl
  | cons x xs ih =>
   simp only [keepL, List.map_cons, get_cons]
   by_cases e : d = x
   ·subst e; simp
   ·simp only [e, if_false]; exact ih
 rcases key with hk | hk
 ·rw [hk]; exact .undef _
 ·rw [hk]; exact h.sr.2.2 d
theorem At.leave {γ : Glob} {L N : Nat} {c0 : Ctx} {st : St} {c : Ctx} {a : Act} (h : At γ L N c0 st c a) (hd : Head) : ∃ c', c'.w = c.w ∧ At γ L N c0 (leaveSt (L + 1) hd st) c' a := by
 unfold leaveSt
 cases hd.fu with
 | true => exact h.head hd
 | false => exact ⟨c, rfl, h.keep hd.lv⟩
theorem evalC_sound {P : Program} {γ : Glob} {call : CallF} (hcall : CallOk P γ call) {om : FuncId → List Nat} {an : Nat → Head} {L N : Nat} {c0 : Ctx} : ∀ (code : Code) {st st' : St} {x : Ex} {c : Ctx} {a : Act},
  evalC P call om an (L + 1) N code st = some (x, st') → At γ L N c0 st c a → code.wp P (Post γ L N c0 x st') a c.w
 | .skip, st, st', x, c, a, h, hat => by
  simp only [evalC, Option.some.injEq, Prod.mk.injEq] at h
  obtain ⟨rfl, rfl⟩ := h
  exact wp_skip ⟨rfl, c, rfl, hat⟩
 | .label l, st, st', x, c, a, h, hat => by
  simp only [evalC, Option.some.injEq, Prod.mk.injEq] at h
  obtain ⟨rfl, rfl⟩ := h
  exact wp_label ⟨rfl, c, rfl, hat⟩
 | .region id ops false, st, st', x, c, a, h, hat => by
  simp only [evalC] at h
  cases ho : evalOps P call om (L + 1) N ops (List.range ops.size) st with
  | none => simp [ho] at h
  | some fin =>
   simp only [ho, Option.map_some, Option.some.injEq, Prod.mk.injEq] at h
   obtain ⟨rfl, rfl⟩ := h
   exact wp_region (evalOps_sound hcall (fun a' c' hat' => ⟨rfl, c', rfl, hat'⟩) _ ho hat)
 | .region id ops true, st, st', x, c, a, h, hat => by
  simp only [evalC] at h
  split at h
  ·rename_i fin ho
   split at h
   ·rename_i hd
    simp only [Option.some.injEq, Prod.mk.injEq] at h
    obtain ⟨rfl, rfl⟩ := h
    exact wp_region_draw fun t => linearise_sound hcall hd (fun a' c' hat' => ⟨rfl, c', rfl, hat'⟩) (fun ch a w hq => by cases hq.1) hat.drew _ t
   ·cases h
  ·cases h
 | .seq p q, st, st', x, c, a, h, hat => by
  simp only [evalC] at h
  split at h
  ·rename_i st1 h1
   refine wp_seq (wp_mono (evalC_sound hcall p h1 hat) fun e a' w' hq => ?_)
   obtain ⟨rfl, c', rfl, hat'⟩ := hq
   exact evalC_sound hcall q h hat'
  ·rename_i hne
   refine wp_seq (wp_mono (evalC_sound hcall p h hat) fun e a' w' hq => ?_)
   obtain ⟨rfl, hq⟩ := hq
   cases x with
   | nrm => exact absurd h (hne st')
   | exit id => exact ⟨rfl, hq⟩
   | ret => exact ⟨rfl, hq⟩
 | .cond q y z, st, st', x, c, a, h, hat => by
  simp only [evalC] at h
  split at h
  ·rename_i b hb
   have hv := (ev_rep hat.sr hb).scv
   cases b with
   | true => exact wp_cond (t := true) hv (evalC_sound hcall y h hat)
   | false => exact wp_cond (t := false) hv (evalC_sound hcall z h hat)
  ·cases h
 | .block id p, st, st', x, c, a, h, hat => by
  simp only [evalC] at h
  split at h
  ·rename_i i st1 h1
   refine wp_block (wp_mono (evalC_sound hcall p h1 hat) fun e a' w' hq => ?_)
   obtain ⟨rfl, hq⟩ := hq
   simp only [Ex.toExit, Exit.inBlock]
   split at h
   ·rename_i hid
    simp only [Option.some.injEq, Prod.mk.injEq] at h
    obtain ⟨rfl, rfl⟩ := h
    rw [if_pos hid]
    exact ⟨rfl, hq⟩
   ·rename_i hid
    simp only [Option.some.injEq, Prod.mk.injEq] at h
    obtain ⟨rfl, rfl⟩ := h
    rw [if_neg hid]
    exact ⟨rfl, hq⟩
  ·rename_i hne
   refine wp_block (wp_mono (evalC_sound hcall p h hat) fun e a' w' hq => ?_)
   obtain ⟨rfl, hq⟩ := hq
   cases x with
   | nrm => exact ⟨rfl, hq⟩
   | exit id => exact absurd h (hne id st')
   | ret => exact ⟨rfl, hq⟩
 | .loop p, st, st', x, c, a, h, hat => by
  simp only [evalC] at h
  obtain ⟨k, hk⟩ := lim_some h
  have hx : x ≠ .nrm := by
   have : ∀ (f : St → Option (Ex × St)) (k : Nat) (st : St), iter f k st ≠ some (.nrm, st') := by
    intro f k
    induction k with
    | zero => intro st h; simp [iter] at h
    | succ k ih =>
     intro st h
     simp only [iter] at h
     split at h
     ·exact ih _ h
     ·rename_i hne; exact hne _ h
   intro e
   subst e
   exact this _ _ _ hk
  refine wp_loop_n (fun n a w => ∃ c st, c.w = w ∧ At γ L N c0 st c a ∧
   iter (fun st => evalC P call om an (L + 1) N p (headSt (L + 1) (an (3 * firstRegion p)) st)) n st = some (x, st')) (n := k) ⟨c, st, rfl, hat, hk⟩ ?_
  rintro n a w ⟨c, st, rfl, hat, hit⟩
  cases n with
  | zero => simp [iter] at hit
  | succ n =>
   simp only [iter] at hit
   obtain ⟨ch, hwh, hm⟩ := hat.head (an (3 * firstRegion p))
   rw [← hwh]
   split at hit
   ·rename_i st1 h1
    refine wp_mono (evalC_sound hcall p h1 hm) fun e a' w' hq => ?_
    obtain ⟨rfl, c', rfl, hat'⟩ := hq
    exact ⟨n, Nat.lt_succ_self n, c', st1, rfl, hat', hit⟩
   ·refine wp_mono (evalC_sound hcall p hit hm) fun e a' w' hq => ?_
    obtain ⟨rfl, hq⟩ := hq
    cases x with
    | nrm => exact absurd rfl hx
    | exit id => exact ⟨rfl, hq⟩
    | ret => exact ⟨rfl, hq⟩
 | .scope p, st, st', x, c, a, h, hat => by
  simp only [evalC] at h
  refine wp_scope_straight (wp_mono (evalC_sound hcall p h hat) fun e a' w' hq => ?_)
  obtain ⟨rfl, hq⟩ := hq
  cases x <;> exact ⟨rfl, hq⟩
 | .exit id, st, st', x, c, a, h, hat => by
  simp only [evalC, Option.some.injEq, Prod.mk.injEq] at h
  obtain ⟨rfl, rfl⟩ := h
  obtain ⟨c', hw, hl⟩ := hat.leave (an (3 * id + 1))
  exact wp_exit ⟨rfl, c', hw, hl⟩
 | .ret, st, st', x, c, a, h, hat => by
  simp only [evalC, Option.some.injEq, Prod.mk.injEq] at h
  obtain ⟨rfl, rfl⟩ := h
  obtain ⟨c', hw, hl⟩ := hat.leave (an 3000002)
  exact wp_ret ⟨rfl, c', hw, hl⟩
 | .rangeFunc .., st, st', x, c, a, h, hat => by simp [evalC] at h
 | .goto l, st, st', x, c, a, h, hat => by simp [evalC] at h
 | .refuse y, st, st', x, c, a, h, hat => by simp [evalC] at h
end Go.TM
