/- The fast evaluator is sound: drawn regions, code, functions. -/
import Derived.Test.YtgmclgajlofljaaGreatDoorTmKe
set_option linter.all false
namespace Go.TM
open Go
section
variable {call : CallK} {cF : CallF} {u8 : Cf} {om : FuncId → List Nat} {L : Nat} {S : KS} {s : SL} {r : An}
theorem inF_t {ds : List Nat} {l : Nat} (h : inF L ds l = true) : lc l ∈ locs L ds := by
 have h : (@Bool.rec (fun _ => Bool) (@Bool.rec (fun _ => Bool) false (kin 9999999 ds) (Nat.blt (l / 4294967296) L)) (@Bool.rec (fun _ => Bool) (kin (l % 4294967296) ds) false (Nat.beq (l % 4294967296) 9999999)) (Nat.beq (l / 4294967296) L)) = true := h
 rw [in_locs]
 show (l / 4294967296 = L ∧ l % 4294967296 ≠ 9999999 ∧ l % 4294967296 ∈ ds) ∨ (l / 4294967296 < L ∧ 9999999 ∈ ds)
 rw [br_if] at h
 split at h
 ·rename_i h1
  rw [nbeq] at h1
  rw [br_if] at h
  split at h
  ·cases h
  ·rename_i h2
   rw [nbeq] at h2
   rw [kin_eq] at h
   exact .inl ⟨h1, h2, by simpa using h⟩
 ·rw [br_and, Bool.and_eq_true, nblt, kin_eq] at h
  exact .inr ⟨h.1, by simpa using h.2⟩
theorem at_t {ds : List Nat} {v : V} (h : atF v L ds = true) : AtD (locs L ds) v.t := by
 cases v with
 | own l g off n => simp only [V.t, AtD]; exact inF_t h
 | ptr l off => simp only [V.t, AtD]; exact inF_t h
 | aptr l g i off => simp only [V.t, AtD]; exact inF_t h
 | _ => simp only [V.t, AtD]
mutual
theorem own_t {ds : List Nat} : ∀ v : V, ownF v L ds = true → OwnD (locs L ds) v.t
 | .own l g off n, h => by simp only [V.t, OwnD]; exact inF_t h
 | .agg cs, h => by simp only [V.t, OwnD]; exact ownL_t cs h
 | .u, _ | .p .., _ | .m .., _ | .b _, _ | .s .., _ | .np, _ | .ns, _ | .nf, _ | .ni, _ | .fn _, _ | .lst .., _ | .ptr .., _ | .lptr .., _ | .aptr .., _ | .clo .., _ | .tup _, _ => by simp only [V.t, OwnD]
theorem ownL_t {ds : List Nat} : ∀ xs : List V, ownFL xs L ds = true → OwnDL (locs L ds) (V.tL xs)
 | [], _ => by simp only [V.tL, OwnDL]
 | x :: xs, h => by
  have h : (@Bool.rec (fun _ => Bool) false (ownFL xs L ds) (ownF x L ds)) = true := h
  rw [br_and, Bool.and_eq_true] at h
  simp only [V.tL, OwnDL]
  exact ⟨own_t x h.1, ownL_t xs h.2⟩
end
theorem shutV_eq (v : V) (h : ∀ cs, v ≠ .tup cs) : shutV v = cl v := by
 cases v <;> first | rfl | exact absurd rfl (h _)
theorem shut_t {v : V} (h : shutV v = true) : Shut v.t := by
 cases v
 case tup cs =>
  have h : clL cs = true := h
  simp only [V.t, Shut, ← clL_t]; exact h
 all_goals
  rw [shutV_eq _ (by intro cs; simp), cl_t] at h
  simp only [V.t] at h ⊢
  exact h
theorem okS_t : ∀ (S : KS), okS S L = true → trunc L (abS S) = abS S := by
 intro S h
 have key : ∀ S : KS, okS S L = true → ∀ k o, kget S k = some o → lev k ≤ L := by
  intro S
  induction S with
  | nil => intro _ k o hk; cases hk
  | cons e S ih =>
   intro h k o hk
   have h : (@Bool.rec (fun _ => Bool) (okS1 e.2 (Nat.beq e.1 (L / 32)) L (okS S L)) true (Nat.blt e.1 (L / 32))) = true := h
   rw [kget_eq, cget_cons] at hk
   by_cases hc : e.1 = lev k / 32
   ·rw [if_pos hc] at hk
    by_cases h1 : e.1 < L / 32
    ·omega
    ·rw [br_if, if_neg (by rw [nblt]; exact h1)] at h
     cases hF : e.2 with
     | nil => rw [hF, fget_nil] at hk; cases hk
     | cons a F =>
      rw [hF] at h hk
      have h : (@Bool.rec (fun _ => Bool) false (Nat.ble (lev a.1) L) (Nat.beq e.1 (L / 32))) = true := h
      rw [br_and, Bool.and_eq_true, nbeq, nble] at h
      rw [fget_cons] at hk
      split at hk
      ·rename_i he; rw [← he]; exact h.2
      ·split at hk
       ·cases hk
       ·omega
   ·rw [if_neg hc] at hk
    split at hk
    ·rw [fget_nil] at hk; cases hk
    ·have hk : kget S k = some o := by rw [kget_eq]; exact hk
     by_cases h1 : e.1 < L / 32
     ·omega
     ·rw [br_if, if_neg (by rw [nblt]; exact h1)] at h
      cases hF : e.2 with
      | nil => rw [hF] at h; exact ih h k o hk
      | cons a F =>
       rw [hF] at h
       have h : (@Bool.rec (fun _ => Bool) false (Nat.ble (lev a.1) L) (Nat.beq e.1 (L / 32))) = true := h
       rw [br_and, Bool.and_eq_true, nbeq, nble] at h
       omega
 funext l
 unfold trunc abS
 split
 ·rfl
 ·rename_i hl
  split
  ·rename_i h2
   cases hk : kget S (lk l) with
   | none => rfl
   | some o =>
    have := key S h (lk l) o hk
    rw [lev_lc h2] at this
    omega
  ·rfl
theorem subF_t {f : Foot} (h : subF f = true) : ∀ l ∈ locs L f.2, l ∈ locs L f.1 := by
 unfold subF at h
 rw [kall_eq, List.all_eq_true] at h
 have hm : ∀ d ∈ f.2, d ∈ f.1 := by
  intro d hd
  have := h d hd
  rw [kin_eq] at this
  simpa using this
 intro l hl
 rw [in_locs] at hl ⊢
 rcases hl with ⟨h1, h2, h3⟩ | ⟨h1, h2⟩
 ·exact .inl ⟨h1, h2, hm _ h3⟩
 ·exact .inr ⟨h1, hm _ h2⟩
theorem new1_t {f : Foot} {x : Nat} (h : newF1 L f x = true) : lc x ∈ locs L f.1 ∧ lc x ∈ locs L f.2 := by
 unfold newF1 at h
 rw [br_and, Bool.and_eq_true] at h
 exact ⟨inF_t h.1, inF_t h.2⟩
theorem new_t {f : Foot} {d : Nat} (h : newF L f (some d) = true) (hd : d < 4294967296) : (L, d) ∈ locs L f.1 ∧ (L, d) ∈ locs L f.2 := by
 have h : newF1 L f (L * 4294967296 + d) = true := h
 have h1 := new1_t h
 rw [lc_mk _ _ hd] at h1
 exact h1
theorem newArr_in {D W : LSet} {S Q : Store} (hA : ∀ l ∈ D, Q l = S l) (hW : ∀ l ∈ W, l ∈ D) {d : Option Nat} {sz e : Nat} {xs : List T} {u : T} {S1 : Store} (hd : ∀ k, d = some k → (L, k) ∈ W) (h : newArrR L d sz e xs S = some (u, S1)) :
  newArrR L d sz e xs Q = some (u, over W S1 Q) := by
 unfold newArrR at h ⊢
 split at h
 ·rename_i d
  split at h
  ·rename_i hn
   have hw := hd d rfl
   simp only [Option.some.injEq, Prod.mk.injEq] at h
   obtain ⟨rfl, rfl⟩ := h
   simp only [hA _ (hW _ hw), hn, if_true, over_upd hA hW hw]
  ·cases h
 ·cases h
theorem newBox_in {D W : LSet} {S Q : Store} (hA : ∀ l ∈ D, Q l = S l) (hW : ∀ l ∈ W, l ∈ D) {d : Option Nat} {bt : Nat} {cs : List T} {u : T} {S1 : Store} (hd : ∀ k, d = some k → (L, k) ∈ W) (h : newBoxR L d bt cs S = some (u, S1)) :
  newBoxR L d bt cs Q = some (u, over W S1 Q) := by
 unfold newBoxR at h ⊢
 split at h
 ·rename_i d
  split at h
  ·rename_i hn
   have hw := hd d rfl
   simp only [Option.some.injEq, Prod.mk.injEq] at h
   obtain ⟨rfl, rfl⟩ := h
   simp only [hA _ (hW _ hw), hn, if_true, over_upd hA hW hw]
  ·cases h
 ·cases h
theorem fit_t (ho : OmT u8 om) {d : Option Nat} {y : Y} {v : V} {S1 : KS} {f : Foot} (he : evX cF om L d s.t (abS S) y.x = some (v.t, abS S1)) (hf : fitX y u8 L d f s S v = true) (hs : subF f = true) (hd : ∀ k, d = some k → k < 4294967296)
  {Q : Store} (hA : ∀ l ∈ locs L f.1, Q l = abS S l) : evX cF om L d s.t Q y.x = some (v.t, over (locs L f.2) (abS S1) Q) := by
 have hW : ∀ l ∈ locs L f.2, l ∈ locs L f.1 := subF_t hs
 have pure : pureX y.x = true → evX cF om L d s.t Q y.x = some (v.t, over (locs L f.2) (abS S1) Q) := by
  intro hp
  have h1 := pure_ev (cF := cF) (om := om) (L := L) (d := d) (s := s.t) hp (abS S) (abS S)
  have h2 := pure_ev (cF := cF) (om := om) (L := L) (d := d) (s := s.t) hp (abS S) Q
  rw [he] at h1 h2
  simp only [Option.map_some, Option.some.injEq, Prod.mk.injEq, true_and] at h1
  rw [h2, h1, over_same hA hW]; rfl
 cases y with
 | load ag n a =>
  have hf : atF (eO s a) L f.1 = true := hf
  simp only [Y.x, evX, eO_t] at he ⊢
  rw [loadR_at hA (at_t hf)]
  cases hl : loadR ag n (abS S) (eO s a).t with
  | none => rw [hl] at he; cases he
  | some t =>
   rw [hl] at he
   simp only [Option.map_some, Option.some.injEq, Prod.mk.injEq] at he ⊢
   rw [← he.2, over_same hA hW]; exact ⟨he.1, rfl⟩
 | iaddr sz x i =>
  have hf : atF (eO s x) L f.1 = true := hf
  simp only [Y.x, evX, eO_t] at he ⊢
  rw [iaddrR_at hA (at_t hf)]
  cases hl : iaddrR sz (abS S) (eO s x).t (eO s i).t with
  | none => rw [hl] at he; cases he
  | some t =>
   rw [hl] at he
   simp only [Option.map_some, Option.some.injEq, Prod.mk.injEq] at he ⊢
   rw [← he.2, over_same hA hW]; exact ⟨he.1, rfl⟩
 | slc sz x lo hi mx =>
  have hf : atF (eO s x) L f.1 = true := hf
  simp only [Y.x, evX, eO_t] at he ⊢
  rw [slcR_at hA (at_t hf)]
  cases hl : slcR sz s.t (abS S) (oO lo) (oO hi) (oO mx) (eO s x).t with
  | none => rw [hl] at he; cases he
  | some t =>
   rw [hl] at he
   simp only [Option.map_some, Option.some.injEq, Prod.mk.injEq] at he ⊢
   rw [← he.2, over_same hA hW]; exact ⟨he.1, rfl⟩
 | b2s x =>
  have hf : atF (eO s x) L f.1 = true := hf
  simp only [Y.x, evX, eO_t, b2sR] at he ⊢
  rw [elemsOf_at hA (at_t hf)]
  split at he
  ·rename_i xs e hel
   cases hb : bytesV xs with
   | none => rw [hb] at he; cases he
   | some bs =>
    rw [hb] at he
    simp only [Option.map_some, Option.some.injEq, Prod.mk.injEq] at he ⊢
    rw [← he.2, over_same hA hW]; exact ⟨he.1, rfl⟩
  ·simp only [Option.map_some, Option.some.injEq, Prod.mk.injEq] at he ⊢
   rw [← he.2, over_same hA hW]; exact ⟨he.1, rfl⟩
  ·cases he
 | usd x =>
  have hf : atF (eO s x) L f.1 = true := hf
  simp only [Y.x, evX, eO_t] at he ⊢
  rw [usdT_at hA (at_t hf)]
  cases hl : usdT (abS S) (eO s x).t with
  | none => rw [hl] at he; cases he
  | some t =>
   rw [hl] at he
   simp only [Option.map_some, Option.some.injEq, Prod.mk.injEq] at he ⊢
   rw [← he.2, over_same hA hW]; exact ⟨he.1, rfl⟩
 | store n a x =>
  have hf : (@Bool.rec (fun _ => Bool) false (@Bool.rec (fun _ => Bool) (noOwn (eO s x)) true (isPtr (eO s a))) (twoF L f (eO s a))) = true := hf
  rw [br_and, Bool.and_eq_true] at hf
  obtain ⟨h2, h3⟩ := hf
  have h2 : (@Bool.rec (fun _ => Bool) false (atF (eO s a) L f.2) (atF (eO s a) L f.1)) = true := h2
  rw [br_and, Bool.and_eq_true] at h2
  have a1 := at_t h2.1
  have a2 := at_t h2.2
  simp only [Y.x, evX, eO_t] at he ⊢
  cases hst : storeR n (abS S) (eO s a).t (eO s x).t with
  | none => rw [hst] at he; cases he
  | some S2 =>
   rw [hst] at he
   simp only [Option.map_some, Option.some.injEq, Prod.mk.injEq] at he
   obtain ⟨hv, rfl⟩ := he
   have : storeR n Q (eO s a).t (eO s x).t = some (over (locs L f.2) (abS S1) Q) := by
    unfold storeR at hst ⊢
    split at hst
    ·rename_i hn
     rw [if_pos hn]
     split at hst
     ·rename_i l off ha
      rw [ha] at a1 a2
      simp only [AtD] at a1 a2
      rw [hA l a1]
      split at hst
      ·rename_i bt cs hb
       split at hst
       ·rename_i hc
        simp only [Option.some.injEq] at hst
        rw [if_pos hc, ← hst, over_upd hA hW a2]
       ·cases hst
      ·cases hst
     ·rename_i l g i off ha
      rw [ha] at a1 a2
      simp only [AtD] at a1 a2
      have hno : noOwnT (eO s x).t = true := by
       rw [← noOwn_t]
       cases hea : eO s a with
       | ptr l' off' => rw [hea] at ha; simp only [V.t] at ha; cases ha
       | _ =>
        rw [hea] at h3
        exact h3
      rw [freeze_noOwn hno] at hst ⊢
      by_cases hcl : closed (eO s x).t = true
      ·simp only [hcl, if_true] at hst ⊢
       rw [hA l a1]
       split at hst
       ·rename_i ro g' sz e xs hb
        split at hst
        ·rename_i hc
         simp only [Option.some.injEq] at hst
         rw [if_pos hc, ← hst, over_upd hA hW a2]
        ·cases hst
       ·cases hst
      ·simp only [hcl, if_false] at hst; cases hst
     ·cases hst
    ·cases hst
   rw [this, Option.map_some, ← hv]
 | mk sz e z l c =>
  have hf : newF L f d = true := hf
  cases d with
  | none => cases hf
  | some d =>
   obtain ⟨w1, w2⟩ := new_t hf (hd d rfl)
   simp only [Y.x, evX, eO_t] at he ⊢
   unfold mkR at he ⊢
   split at he
   ·split at he
    ·rename_i hc
     simp only [hc, and_self, if_true]
     exact newArr_in hA hW (fun k hk => by cases hk; exact w2) he
    ·cases he
   ·cases he
 | bsl e sz ps =>
  have hf : (@Bool.rec (fun _ => Bool) false (@Bool.rec (fun _ => Bool) (ownFL (eL ps s) L f.2) true (noOwnL (eL ps s))) (@Bool.rec (fun _ => Bool) (newF L f d) true (kin (Nat.add e (Nat.mul 1000000 L)) (u8.om 1000000002)))) = true := hf
  rw [br_and, Bool.and_eq_true, br_or, Bool.or_eq_true, br_or, Bool.or_eq_true, kin_eq] at hf
  obtain ⟨hf, hno⟩ := hf
  have hom : om 1000000002 = u8.om 1000000002 := by rw [ho]; rfl
  have born : ∀ {S' Q' : Store} {us : List T} {u : T} {S2 : Store}, (∀ l ∈ locs L f.1, Q' l = S' l) → bornR ((u8.om 1000000002).contains (e + 1000000 * L)) L d sz e us S' = some (u, S2) → bornR ((u8.om 1000000002).contains (e + 1000000 * L)) L d sz e us Q' = some (u, over (locs L f.2) S2 Q') := by
   intro S' Q' us u S2 hA' hb
   unfold bornR at hb ⊢
   split at hb
   ·rename_i hq
    rw [if_pos hq]
    simp only [Option.some.injEq, Prod.mk.injEq] at hb
    obtain ⟨rfl, rfl⟩ := hb
    rw [over_same hA' hW]
   ·rename_i hq
    rw [if_neg hq]
    have hf := hf.resolve_left hq
    cases d with
    | none => cases hf
    | some d =>
     obtain ⟨w1, w2⟩ := new_t hf (hd d rfl)
     exact newArr_in hA' hW (fun k hk => by cases hk; exact w2) hb
  simp only [Y.x, evX, eL_t] at he ⊢
  unfold bslR at he ⊢
  rw [hom] at he ⊢
  rcases hno with hno | hno
  rotate_left
  ·cases hfr : freezeL (abS S) (V.tL (eL ps s)) with
   | none => rw [hfr] at he; cases he
   | some p =>
    obtain ⟨us, S2⟩ := p
    obtain ⟨a1, a2⟩ := freezeL_own hW _ hA (ownL_t _ hno) hfr
    rw [hfr] at he
    rw [a1]
    simp only at he ⊢
    split at he
    ·rename_i hc
     rw [if_pos hc]
     have := born (Q' := over (locs L f.2) S2 Q) a2 he
     rw [over_over] at this
     exact this
    ·cases he
  rw [noOwnL_t] at hno
  rw [freezeL_noOwn _ hno] at he ⊢
  by_cases hcl : closedL (V.tL (eL ps s)) = true
  ·simp only [hcl, if_true] at he ⊢
   split at he
   ·rename_i hc
    rw [if_pos hc]
    exact born hA he
   ·cases he
  ·simp only [hcl, if_false] at he; cases he
 | alloc e z =>
  have hf : newF L f d = true := hf
  cases d with
  | none => cases hf
  | some d =>
   obtain ⟨w1, w2⟩ := new_t hf (hd d rfl)
   simp only [Y.x, evX] at he ⊢
   exact newBox_in hA hW (fun k hk => by cases hk; exact w2) he
 | box e x =>
  have hf : newF L f d = true := hf
  cases d with
  | none => cases hf
  | some d =>
   obtain ⟨w1, w2⟩ := new_t hf (hd d rfl)
   simp only [Y.x, evX, eO_t] at he ⊢
   exact newBox_in hA hW (fun k hk => by cases hk; exact w2) he
 | app e sz x y =>
  have hf : (@Bool.rec (fun _ => Bool) false (@Bool.rec (fun _ => Bool) (appF (eO s x) L f d) false (appD u8 L e)) (atF (eO s y) L f.1)) = true := hf
  rw [br_and, Bool.and_eq_true] at hf
  obtain ⟨hay, hf⟩ := hf
  rw [br_if] at hf
  split at hf
  ·cases hf
  rename_i hlow
  simp only [Y.x, evX, eO_t] at he ⊢
  unfold appR at he ⊢
  rw [elemsOf_at hA (at_t hay)]
  split at he
  ·rename_i sy ys ee hel
   split at he
   ·rename_i hsz
    rw [if_pos hsz]
    rw [low_t ho, if_neg hlow] at he ⊢
    split at he
    ·rename_i hx
     split at he
     ·rename_i hem
      rw [if_pos hem]
      simp only [Option.some.injEq, Prod.mk.injEq] at he ⊢
      rw [← he.2, over_same hA hW]; exact ⟨he.1, rfl⟩
     ·rename_i hem
      rw [if_neg hem]
      split at he
      ·rename_i hm
       rw [if_pos hm]
       have hn : newF L f d = true := by
        cases hex : eO s x with
        | own l g off n => rw [hex] at hx; simp only [V.t] at hx; cases hx
        | _ => rw [hex] at hf; exact hf
       cases d with
       | none => cases hn
       | some d =>
        obtain ⟨w1, w2⟩ := new_t hn (hd d rfl)
        exact newArr_in hA hW (fun k hk => by cases hk; exact w2) he
      ·cases he
    ·rename_i l g off len hx
     have hl : l ∈ locs L f.1 ∧ l ∈ locs L f.2 := by
      cases hex : eO s x with
      | own l' g' off' n' =>
       rw [hex] at hx hf
       simp only [V.t, T.own.injEq] at hx
       have hf : newF1 L f l' = true := hf
       rw [← hx.1]
       exact new1_t hf
      | _ => rw [hex] at hx; simp only [V.t] at hx; cases hx
     rw [hA l hl.1]
     split at he
     ·rename_i ro g' sz' e' xs hb
      split at he
      ·rename_i hc
       rw [if_pos hc]
       split at he
       ·rename_i hem
        rw [if_pos hem]
        simp only [Option.some.injEq, Prod.mk.injEq] at he ⊢
        rw [← he.2, over_same hA hW]; exact ⟨he.1, rfl⟩
       ·rename_i hem
        rw [if_neg hem]
        split at he
        ·rename_i hc2
         rw [if_pos hc2]
         simp only [Option.some.injEq, Prod.mk.injEq] at he ⊢
         rw [← he.2, over_upd hA hW hl.2]; exact ⟨he.1, rfl⟩
        ·cases he
      ·cases he
     ·cases he
    ·cases he
   ·cases he
  ·cases he
 | call fo args =>
  have hf : (@Bool.rec (fun _ => Bool) (@Bool.rec (fun _ => Bool) false (lowN L d f v) (lowF (eO s fo) u8 L f (eL args s) S)) (@Bool.rec (fun _ => Bool) false (@Bool.rec (fun _ => Bool) (@Bool.rec (fun _ => Bool) false (shutV v) (shutK2 L f (eL args s) S)) (@Bool.rec (fun _ => Bool) false (shutV v) (shutK (eL args s) S)) (@Bool.rec (fun _ => Bool) (@Bool.rec (fun _ => Bool) true false (hlV v)) true (noOwnL (eL args s)))) (ownFL (eL args s) L f.1)) (isFn (eO s fo) u8)) = true := hf
  rw [br_if] at hf
  split at hf
  rotate_left
  ·rw [br_and, Bool.and_eq_true] at hf
   obtain ⟨hf, hN⟩ := hf
   have hnew : lvle (L - 1) v.t = true ∨ ∃ n, d = some n ∧ (L, 1000 * (n + 1)) ∈ locs L f.2 := by
    unfold lowN at hN
    rw [br_or, lv_t, Bool.or_eq_true] at hN
    rcases hN with h | h
    ·exact .inl h
    ·cases d with
     | none => cases h
     | some n =>
      have h : (@Bool.rec (fun _ => Bool) false (newF L f (some (1000 * (n + 1)))) (Nat.blt n 1000000)) = true := h
      rw [br_and, Bool.and_eq_true, Nat.blt_eq] at h
      exact .inr ⟨n, rfl, (new_t h.2 (by omega)).2⟩
   simp only [Y.x, evX, eO_t, eL_t, callR, callT] at he ⊢
   have go : ∀ (g : Nat) (caps : List V), lowG u8 L f g (eL args s) caps S = true → ((goT cF om L d (abS S) g (V.tL (eL args s)) (V.tL caps)).map fun r => (r.t, r.S)) = some (v.t, abS S1) →
     ((goT cF om L d Q g (V.tL (eL args s)) (V.tL caps)).map fun r => (r.t, r.S)) = some (v.t, over (locs L f.2) (abS S1) Q) := by
    intro g caps hg he
    unfold lowG at hg
    rw [br_if] at hg
    split at hg
    ·cases hg
    rename_i hg9
    rw [nbeq] at hg9
    have hog : om g = u8.om g := by rw [ho]; simp only [if_neg hg9]
    cases hsn : snArgs (eL args s) (u8.om g) 0 S fun as ls => @Bool.rec (fun _ => Option An) none (some (.u, [])) (lowD u8 L f g (eL args s) as caps ls) with
    | none => rw [hsn] at hg; cases hg
    | some q =>
     obtain ⟨ws, ls, a1, a2⟩ := snArgs_t (u8.om g) (eL args s) 0 hsn
     rw [br_some] at a2
     have a2 := a2.1
     unfold lowD at a2
     rw [br_if] at a2
     split at a2
     ·cases a2
     rename_i hpl
     rw [br_if] at a2
     split at a2
     rotate_left
     ·rename_i hlo
      rw [lowK_t, kapp_eq, tL_app] at hlo
      cases hsh : shK (u8.om g) ws caps with
      | none => rw [hsh] at a2; cases a2
      | some q =>
       rw [hsh] at a2
       have a2 : (@Bool.rec (fun _ => Bool) false (@Bool.rec (fun _ => Bool) false (inF L f.2 q) (kall (fun l => inF L f.2 l) ls)) (ownFL (eL args s) L f.1)) = true := a2
       simp only [br_and, Bool.and_eq_true] at a2
       obtain ⟨b2, b3, b4⟩ := a2
       rw [kall_eq, List.all_eq_true] at b3
       cases hgo : goT cF om L d (abS S) g (V.tL (eL args s)) (V.tL caps) with
       | none => rw [hgo] at he; cases he
       | some re =>
        rw [hgo] at he
        obtain ⟨t, S2, e⟩ := re
        simp only [Option.map_some, Option.some.injEq, Prod.mk.injEq] at he
        obtain ⟨rfl, rfl⟩ := he
        rw [one_at hA hW hgo (ownL_t _ b2) ⟨_, _, lc q, by rw [hog]; exact a1, by rw [plK_t] at hpl; rw [hog]; exact hpl, by rw [hog]; exact hlo, by rw [hog, shK_t, hsh]; rfl, fun l hl => ?_, inF_t b4⟩]
        ·rfl
        ·obtain ⟨k, hk, rfl⟩ := List.mem_map.1 hl
         exact inF_t (b3 k hk)
     rename_i hlo
     simp only [br_and, Bool.and_eq_true] at a2
     obtain ⟨b2, b3, b4, b5⟩ := a2
     have b1 := hlo
     rw [lowK_t, kapp_eq, tL_app] at b1
     rw [kall_eq, List.all_eq_true] at b3
     rw [kin_eq] at b4 b5
     cases hgo : goT cF om L d (abS S) g (V.tL (eL args s)) (V.tL caps) with
     | none => rw [hgo] at he; cases he
     | some re =>
      rw [hgo] at he
      obtain ⟨t, S2, e⟩ := re
      simp only [Option.map_some, Option.some.injEq, Prod.mk.injEq] at he
      obtain ⟨rfl, rfl⟩ := he
      rw [low_at hA hW hgo (ownL_t _ b2) ⟨_, _, by rw [hog]; exact a1, ?_, by rw [hog]; exact b1, ?_⟩ (by simpa using b4) (by simpa using b5) hnew]
      ·rfl
      ·rw [plK_t] at hpl
       rw [hog]; exact hpl
      ·intro l hl
       obtain ⟨k, hk, rfl⟩ := List.mem_map.1 hl
       exact inF_t (b3 k hk)
   cases hfo : eO s fo with
   | fn g =>
    rw [hfo] at he hf
    simp only [V.t] at he ⊢
    have := go g [] hf (by simpa only [V.tL] using he)
    simpa only [V.tL] using this
   | clo g cs =>
    rw [hfo] at he hf
    have hf : (@Bool.rec (fun _ => Bool) false (lowG u8 L f g (eL args s) cs S) (Nat.blt g 1000000000)) = true := hf
    rw [br_and, Bool.and_eq_true] at hf
    simp only [V.t, hf.1, cond_true] at he ⊢
    exact go g cs hf.2 he
   | _ => rw [hfo] at hf; cases hf
  rename_i h1
  rw [br_and, Bool.and_eq_true] at hf
  obtain ⟨h2, hf⟩ := hf
  have go : ∀ g : Nat, (g ≠ 1000000000 ∧ u8.om g = []) → (∃ S2 e, goT cF om L d (abS S) g (V.tL (eL args s)) [] = some ⟨v.t, S2, e⟩ ∧ S2 = abS S1) → ∃ e, goT cF om L d Q g (V.tL (eL args s)) [] = some ⟨v.t, over (locs L f.2) (abS S1) Q, e⟩ := by
   rintro g hg9 ⟨S2, e, hg, rfl⟩
   have hog : om g = [] := by rw [ho]; simp only [if_neg hg9.1, hg9.2]
   rw [br_if] at hf
   split at hf
   ·rename_i h3
    simp only [br_and, br_or, br_not, Bool.and_eq_true, Bool.or_eq_true, Bool.not_eq_true'] at hf h3
    obtain ⟨h4, h5⟩ := hf
    have hcl : ∃ as ls, snapArgs [] (abS S) 0 (V.tL (eL args s)) = some (as, ls) ∧ closedL as = true := by
     unfold shutK at h4
     cases hsn : snArgs (eL args s) [] 0 S fun as _ => @Bool.rec (fun _ => Option An) none (some (.u, [])) (clL as) with
     | none => rw [hsn] at h4; cases h4
     | some q =>
      obtain ⟨ws, ls, a1, a2⟩ := snArgs_t [] (eL args s) 0 hsn
      rw [br_some, clL_t] at a2
      exact ⟨_, _, a1, a2.1⟩
    rw [noOwnL_t, hl_t] at h3
    obtain ⟨hS, e', h6⟩ := call_at hA (fun _ => .inr trivial) hog hg (ownL_t _ h2) h3 hcl (shut_t h5)
    refine ⟨e', ?_⟩
    rw [h6, hS, over_same hA hW]
   ·simp only [br_and, Bool.and_eq_true] at hf
    obtain ⟨h4, h5⟩ := hf
    have hcl : ∃ as ls, snapArgs [] (abS S) 0 (V.tL (eL args s)) = some (as, ls) ∧ closedL as = true ∧ ∀ l ∈ ls, l ∈ locs L f.2 := by
     unfold shutK2 at h4
     cases hsn : snArgs (eL args s) [] 0 S fun as ls => @Bool.rec (fun _ => Option An) none (@Bool.rec (fun _ => Option An) none (some (.u, [])) (kall (fun l => inF L f.2 l) ls)) (clL as) with
     | none => rw [hsn] at h4; cases h4
     | some q =>
      obtain ⟨ws, ls, a1, a2⟩ := snArgs_t [] (eL args s) 0 hsn
      rw [br_some, clL_t, br_some, kall_eq, List.all_eq_true] at a2
      refine ⟨_, _, a1, a2.1, fun l hl => ?_⟩
      obtain ⟨k, hk, rfl⟩ := List.mem_map.1 hl
      exact inF_t (a2.2.1 k hk)
    exact call_at2 hA hW hog hg (ownL_t _ h2) hcl (shut_t h5)
  simp only [Y.x, evX, eO_t, eL_t, callR, callT] at he ⊢
  cases hfo : eO s fo with
  | fn g =>
   rw [hfo] at he h1
   have h1 : (@Bool.rec (fun _ => Bool) (kempty (u8.om g)) false (Nat.beq g 1000000000)) = true := h1
   have h1 : g ≠ 1000000000 ∧ u8.om g = [] := by
    rw [br_if] at h1
    split at h1
    ·cases h1
    ·rename_i hg9
     rw [nbeq] at hg9
     refine ⟨hg9, ?_⟩
     cases ho : u8.om g with
     | nil => rfl
     | cons x xs => rw [ho] at h1; cases h1
   simp only [V.t] at he ⊢
   cases hg : goT cF om L d (abS S) g (V.tL (eL args s)) [] with
   | none => rw [hg] at he; cases he
   | some re =>
    rw [hg] at he
    simp only [Option.map_some, Option.some.injEq, Prod.mk.injEq] at he
    obtain ⟨t, S2, e⟩ := re
    simp only at he
    obtain ⟨rfl, rfl⟩ := he
    obtain ⟨e', h6⟩ := go g h1 ⟨_, e, hg, rfl⟩
    rw [h6]; rfl
  | clo g cs =>
   rw [hfo] at he h1
   have h1 : (@Bool.rec (fun _ => Bool) false (@Bool.rec (fun _ => Bool) false (kempty cs) (kempty (u8.om g))) (Nat.blt g 1000000000)) = true := h1
   rw [br_and, Bool.and_eq_true] at h1
   obtain ⟨hblt, h1⟩ := h1
   rw [br_and, Bool.and_eq_true] at h1
   have hg9 : g ≠ 1000000000 ∧ u8.om g = [] := by
    refine ⟨fun e => (by rw [e] at hblt; exact absurd hblt (by decide)), ?_⟩
    have h2 := h1.1
    cases ho : u8.om g with
    | nil => rfl
    | cons x xs => rw [ho] at h2; cases h2
   have : cs = [] := by
    have h2 := h1.2
    cases cs with
    | nil => rfl
    | cons x xs => cases h2
   subst this
   simp only [V.t, V.tL, hblt, cond_true] at he ⊢
   cases hg : goT cF om L d (abS S) g (V.tL (eL args s)) [] with
   | none => rw [hg] at he; cases he
   | some re =>
    rw [hg] at he
    simp only [Option.map_some, Option.some.injEq, Prod.mk.injEq] at he
    obtain ⟨t, S2, e⟩ := re
    simp only at he
    obtain ⟨rfl, rfl⟩ := he
    obtain ⟨e', h6⟩ := go g hg9 ⟨_, e, hg, rfl⟩
    rw [h6]; rfl
  | _ => rw [hfo] at h1; cases h1
 | ustr e p n =>
  have hf : (@Bool.rec (fun _ => Bool) false (atF (eO s p) L f.2) (atF (eO s p) L f.1)) = true := hf
  rw [br_and, Bool.and_eq_true] at hf
  have a1 := at_t hf.1
  have a2 := at_t hf.2
  simp only [Y.x, evX, eO_t] at he ⊢
  unfold ustrR at he ⊢
  split at he
  ·split at he
   ·rename_i h0
    rw [if_pos h0]
    simp only [Option.some.injEq, Prod.mk.injEq] at he ⊢
    rw [← he.2, over_same hA hW]; exact ⟨he.1, rfl⟩
   ·cases he
  ·rename_i l g i off n' hp hn
   rw [hp] at a1 a2
   simp only [AtD] at a1 a2
   rw [hA l a1]
   split at he
   ·rename_i ro g' sz e' xs hb
    split at he
    ·rename_i hc
     rw [if_pos hc]
     cases hbv : bytesV (xs.take n'.toNat) with
     | none => rw [hbv] at he; cases he
     | some bs =>
      rw [hbv] at he
      simp only [Option.map_some, Option.some.injEq, Prod.mk.injEq] at he ⊢
      rw [← he.2, over_setRo hA hW a2]; exact ⟨he.1, rfl⟩
    ·cases he
   ·cases he
  ·cases he
 | cpy x y => cases hf
 | toU x => cases hf
 | ofU u n x => cases hf
 | apps e x y => cases hf
 | appz e sz z x y => cases hf
 | bad => cases hf
 | _ => exact pure rfl
end
end Go.TM
