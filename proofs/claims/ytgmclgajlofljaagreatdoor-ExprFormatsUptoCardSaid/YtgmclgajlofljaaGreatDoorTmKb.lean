/- The fast evaluator is sound: heads of rounds, calls. -/
import Derived.Test.YtgmclgajlofljaaGreatDoorTmKa
set_option linter.all false
namespace Go.TM
open Go
theorem rnz_t {S : KS} {f : Nat → Option Nat} {f' : Loc → Option Loc} {n : Nat} (hf : ∀ l, f' (lc l) = (f l).map lc) (v : V) : rename (abS S) f' (fun m => m.1 == n) v.t = (rnV S f n v).t :=
 rn_t (z := fun m => m.1 == n) hf (lv_beq n) v
theorem rnzO_t {S : KS} {f : Nat → Option Nat} {f' : Loc → Option Loc} {n : Nat} (hf : ∀ l, f' (lc l) = (f l).map lc) (o : KO) : renObj (abS S) f' (fun m => m.1 == n) o.t = (rnO o S f n).t :=
 rnO_t (z := fun m => m.1 == n) hf (lv_beq n) o
theorem kg_cons (d : Nat) (v : V) (r : SL) (k : Nat) : kg (.cons d v r) k = if d = k then v else kg r k := by
 show (@Bool.rec (fun _ => V) (kg r k) v (Nat.beq d k)) = _
 rw [br_if]; simp only [nbeq]
theorem kg_t (d : Nat) : ∀ s : SL, get s.t d = (kg s d).t
 | .nil => by simp only [SL.t, get_nil]; show _ = V.t .u; simp only [V.t]
 | .cons k v r => by
  have ih := kg_t d r
  simp only [SL.t, get, List.lookup_cons] at ih ⊢
  rw [kg_cons]
  by_cases h : k = d
  ·subst h; simp
  ·have : (d == k) = false := by simpa using fun e => h e.symm
   simp only [this, h, if_false]
   exact ih
theorem kpL_t (s : SL) : ∀ lv, keepL lv s.t = (kpL lv s).t
 | [] => rfl
 | d :: lv => by
  show (d, get s.t d) :: keepL lv s.t = SL.t (.cons d (kg s d) (kpL lv s))
  simp only [SL.t, kg_t, kpL_t s lv]
theorem mkL_t (L : Nat) (kl : List Nat) (S : KS) (s : SL) : ∀ lv, maskL L kl lv s.t (abS S) = (mkL lv L kl S s).t
 | [] => rfl
 | d :: lv => by
  show (d, rename (abS S) (maskF L kl) (fun m => m.1 == L) (get s.t d)) :: maskL L kl lv s.t (abS S) = SL.t (.cons d (rnV S (mkF L kl) L (kg s d)) (mkL lv L kl S s))
  simp only [SL.t, kg_t, mkL_t L kl S s lv, rnz_t (maskF_t L kl)]
theorem fmk2_cons (e : Nat × KO) (F : KT) (S0 : KS) (L : Nat) (kl : List Nat) : fmk2 (e :: F) S0 L kl =
  if lev e.1 = L then (if kl.contains (e.1 % 4294967296) = true then (e.1, rnO e.2 S0 (mkF L kl) L) :: fmk2 F S0 L kl else fmk2 F S0 L kl) else if lev e.1 < L then e :: F else fmk2 F S0 L kl := by
 show (@Bool.rec (fun _ => KT) (@Bool.rec (fun _ => KT) (fmk2 F S0 L kl) (e :: F) (Nat.blt (lev e.1) L)) (@Bool.rec (fun _ => KT) (fmk2 F S0 L kl) ((e.1, rnO e.2 S0 (mkF L kl) L) :: fmk2 F S0 L kl) (kin (e.1 % 4294967296) kl)) (Nat.beq (lev e.1) L)) = _
 rw [br_if, br_if, br_if]; simp only [nbeq, nblt, kin_eq]
theorem fmk_cons (e : Nat × KO) (F : KT) (S0 : KS) (L : Nat) (kl : List Nat) : fmk (e :: F) S0 L kl = if L < lev e.1 then e :: fmk F S0 L kl else fmk2 (e :: F) S0 L kl := by
 show (@Bool.rec (fun _ => KT) (fmk2 (e :: F) S0 L kl) (e :: fmk F S0 L kl) (Nat.blt L (lev e.1))) = _
 rw [br_if]; simp only [nblt]
theorem fget_mk2 (S0 : KS) (L : Nat) (kl : List Nat) (k : Nat) : ∀ F, fget (fmk2 F S0 L kl) k (bas k) =
  if lev k = L then (if kl.contains (k % 4294967296) = true then (fget F k (bas k)).map fun o => rnO o S0 (mkF L kl) L else none) else if lev k < L then fget F k (bas k) else none
 | [] => by
  rw [show fmk2 [] S0 L kl = [] from rfl, fget_nil]
  split
  ·split <;> rfl
  ·split <;> rfl
 | e :: F => by
  have ih := fget_mk2 S0 L kl k F
  rw [fmk2_cons, fget_cons]
  by_cases h1 : lev e.1 = L
  ·rw [if_pos h1]
   by_cases hin : kl.contains (e.1 % 4294967296) = true
   ·rw [if_pos hin, fget_cons, ih]
    by_cases he : e.1 = k
    ·subst he; simp only [if_pos h1, if_pos hin, if_true]; rfl
    ·simp only [if_neg he]
     by_cases h2 : lev k = L
     ·have h3 : ¬ lev e.1 < lev k := by omega
      simp only [if_pos h2, if_neg h3]
     ·by_cases h4 : lev k < L
      ·have h3 : ¬ lev e.1 < lev k := by omega
       simp only [if_neg h2, if_pos h4, if_neg h3]
      ·have h3 : lev e.1 < lev k := by omega
       simp only [if_neg h2, if_neg h4, if_pos h3]
   ·rw [if_neg hin, ih]
    by_cases he : e.1 = k
    ·subst he; simp only [if_pos h1, if_neg hin]
    ·simp only [if_neg he]
     by_cases h2 : lev k = L
     ·have h3 : ¬ lev e.1 < lev k := by omega
      simp only [if_pos h2, if_neg h3]
     ·by_cases h4 : lev k < L
      ·have h3 : ¬ lev e.1 < lev k := by omega
       simp only [if_neg h2, if_pos h4, if_neg h3]
      ·simp only [if_neg h2, if_neg h4]
  ·rw [if_neg h1]
   by_cases h5 : lev e.1 < L
   ·rw [if_pos h5, fget_cons]
    by_cases h2 : lev k = L
    ·have h3 : lev e.1 < lev k := by omega
     have he : ¬ e.1 = k := fun e' => by rw [e'] at h3; omega
     simp only [if_pos h2, if_pos h3, if_neg he]
     split <;> rfl
    ·by_cases h4 : lev k < L
     ·simp only [if_neg h2, if_pos h4]
     ·have h3 : lev e.1 < lev k := by omega
      have he : ¬ e.1 = k := fun e' => by rw [e'] at h3; omega
      simp only [if_neg h2, if_neg h4, if_neg he, if_pos h3]
   ·rw [if_neg h5, ih]
    by_cases h2 : lev k = L
    ·have h3 : ¬ lev e.1 < lev k := by omega
     have he : ¬ e.1 = k := fun e' => h1 (by rw [e']; exact h2)
     simp only [if_pos h2, if_neg h3, if_neg he]
    ·by_cases h4 : lev k < L
     ·have h3 : ¬ lev e.1 < lev k := by omega
      have he : ¬ e.1 = k := fun e' => by rw [e'] at h5; omega
      simp only [if_neg h2, if_pos h4, if_neg h3, if_neg he]
     ·simp only [if_neg h2, if_neg h4]
theorem fget_mk (S0 : KS) (L : Nat) (kl : List Nat) (k : Nat) : ∀ F, fget (fmk F S0 L kl) k (bas k) =
  if lev k = L then (if kl.contains (k % 4294967296) = true then (fget F k (bas k)).map fun o => rnO o S0 (mkF L kl) L else none) else fget F k (bas k)
 | [] => by
  rw [show fmk [] S0 L kl = [] from rfl, fget_nil]
  split
  ·split <;> rfl
  ·rfl
 | e :: F => by
  have ih := fget_mk S0 L kl k F
  rw [fmk_cons]
  by_cases h1 : L < lev e.1
  ·rw [if_pos h1, fget_cons, ih, fget_cons]
   by_cases h2 : lev k = L
   ·have h3 : ¬ lev e.1 < lev k := by omega
    have he : ¬ e.1 = k := fun e' => by rw [e'] at h1; omega
    simp only [if_pos h2, if_neg h3, if_neg he]
   ·simp only [if_neg h2]
  ·rw [if_neg h1, fget_mk2]
   by_cases h2 : lev k = L
   ·simp only [if_pos h2]
   ·by_cases h4 : lev k < L
    ·simp only [if_neg h2, if_pos h4]
    ·have h3 : lev e.1 < lev k := by omega
     have he : ¬ e.1 = k := fun e' => by rw [e'] at h3; omega
     rw [fget_cons]
     simp only [if_neg h2, if_neg h4, if_neg he, if_pos h3]
theorem kget_mk (S0 : KS) (L : Nat) (kl : List Nat) (k : Nat) (S : KS) : kget (mkS S S0 L kl) k =
  if lev k = L then (if kl.contains (k % 4294967296) = true then (kget S k).map fun o => rnO o S0 (mkF L kl) L else none) else kget S k := by
 have hc : ∀ c, cget (mkS S S0 L kl) c = if c = L / 32 then fmk (cget S c) S0 L kl else cget S c := by
  intro c
  show cget (mkS1 (cget S (L / 32)) S S0 L kl) c = _
  cases hF : cget S (L / 32) with
  | nil =>
   show cget S c = _
   by_cases h : c = L / 32
   ·rw [if_pos h, h, hF]; rfl
   ·rw [if_neg h]
  | cons a F =>
   show cget (cput S (L / 32) (fmk (a :: F) S0 L kl)) c = _
   rw [cget_put]
   by_cases h : c = L / 32
   ·rw [if_pos h, if_pos h, h, hF]
   ·rw [if_neg h, if_neg h]
 rw [kget_eq, kget_eq, hc]
 by_cases h : lev k / 32 = L / 32
 ·rw [if_pos h, fget_mk]
 ·have h2 : ¬ lev k = L := fun e => h (by rw [e])
  rw [if_neg h, if_neg h2]
theorem abS_in (S : KS) {l : Loc} (h : l.2 < 4294967296) : abS S l = (kget S (lk l)).map KO.t := by unfold abS; rw [if_pos h]
theorem abS_out (S : KS) {l : Loc} (h : ¬ l.2 < 4294967296) : abS S l = none := by unfold abS; rw [if_neg h]
theorem mkS_t (S : KS) (L : Nat) (kl : List Nat) : maskS L kl (abS S) = abS (mkS S S L kl) := by
 funext l
 unfold maskS
 by_cases h : l.2 < 4294967296
 ·have e2 : lk l % 4294967296 = l.2 := by simp only [lk]; omega
  rw [abS_in S h, abS_in _ h, kget_mk, lev_lc h, e2]
  split
  ·split
   ·cases kget S (lk l) with
    | none => rfl
    | some o => simp only [Option.map_some, rnzO_t (maskF_t L kl)]
   ·rfl
  ·rfl
 ·rw [abS_out S h, abS_out _ h]
  split
  ·split <;> rfl
  ·rfl
theorem gBox_iff {S : KS} {l : Nat} {k : Nat → List V → Option An} {r : An} : gBox S l k = some r ↔ ∃ bt cs, kget S l = some (.box bt cs) ∧ k bt cs = some r := by
 unfold gBox
 cases kget S l with
 | none => simp
 | some o =>
  cases o with
  | box bt cs =>
   show k bt cs = some r ↔ _
   exact ⟨fun h => ⟨_, _, rfl, h⟩, by rintro ⟨_, _, h1, h2⟩; cases h1; exact h2⟩
  | _ => simp [onBox]
theorem gArr_iff {S : KS} {l : Nat} {k : Bool → Nat → Nat → Nat → List V → Option An} {r : An} : gArr S l k = some r ↔ ∃ ro g sz e xs, kget S l = some (.arr ro g sz e xs) ∧ k ro g sz e xs = some r := by
 unfold gArr
 cases kget S l with
 | none => simp
 | some o =>
  cases o with
  | arr ro g sz e xs =>
   show k ro g sz e xs = some r ↔ _
   exact ⟨fun h => ⟨_, _, _, _, _, rfl, h⟩, by rintro ⟨_, _, _, _, _, h1, h2⟩; cases h1; exact h2⟩
  | _ => simp [onArr]
theorem sk_iff {o : Option V} {k : V → Option An} {r : An} : sk o k = some r ↔ ∃ v, o = some v ∧ k v = some r := by
 unfold sk; cases o <;> simp
mutual
theorem sn_t {S : KS} {r : An} : ∀ (v : V) {k : V → List Nat → Option An}, snV S v k = some r → ∃ w ls, snap (abS S) v.t = some (w.t, ls.map lc) ∧ k w ls = some r
 | .own l g off n, k, h => by
  have h : (gArr S l fun _ g1 sz _ xs => @Bool.rec (fun _ => Option An) none (@Bool.rec (fun _ => Option An) none (k (.lst sz (ktake n (kdrop off xs))) [l]) (Nat.ble (Nat.add off n) (klen xs))) (Nat.beq g g1)) = some r := h
  simp only [gArr_iff, br_some, nbeq, nble, klen_eq, ktake_eq, kdrop_eq] at h
  obtain ⟨ro, g1, sz, e, xs, h1, rfl, h2, h3⟩ := h
  refine ⟨_, _, ?_, h3⟩
  have h2' : off + n ≤ xs.length := h2
  simp only [V.t, snap, abS_lc, h1, Option.map_some, KO.t, tL_len, true_and, h2', if_true, tL_drop, tL_take, List.map_cons, List.map_nil]
 | .agg cs, k, h => by
  have h : snL cs S (fun ds ls => k (.agg ds) ls) = some r := h
  obtain ⟨ws, ls, h1, h2⟩ := snL_t cs h
  exact ⟨.agg ws, ls, by simp only [V.t, snap, h1], h2⟩
 | .u, k, h => ⟨.u, [], by simp only [V.t, snap]; rfl, h⟩
 | .p c m, k, h => ⟨.p c m, [], by simp only [V.t, snap]; rfl, h⟩
 | .m c m, k, h => ⟨.m c m, [], by simp only [V.t, snap]; rfl, h⟩
 | .b q, k, h => ⟨.b q, [], by simp only [V.t, snap]; rfl, h⟩
 | .s l m, k, h => ⟨.s l m, [], by simp only [V.t, snap]; rfl, h⟩
 | .np, k, h => ⟨.np, [], by simp only [V.t, snap]; rfl, h⟩
 | .ns, k, h => ⟨.ns, [], by simp only [V.t, snap]; rfl, h⟩
 | .nf, k, h => ⟨.nf, [], by simp only [V.t, snap]; rfl, h⟩
 | .ni, k, h => ⟨.ni, [], by simp only [V.t, snap]; rfl, h⟩
 | .fn f, k, h => ⟨.fn f, [], by simp only [V.t, snap]; rfl, h⟩
 | .lst sz xs, k, h => ⟨.lst sz xs, [], by simp only [V.t, snap]; rfl, h⟩
 | .ptr l off, k, h => ⟨.ptr l off, [], by simp only [V.t, snap]; rfl, h⟩
 | .lptr sz xs i off, k, h => ⟨.lptr sz xs i off, [], by simp only [V.t, snap]; rfl, h⟩
 | .aptr l g i off, k, h => ⟨.aptr l g i off, [], by simp only [V.t, snap]; rfl, h⟩
 | .clo f cs, k, h => ⟨.clo f cs, [], by simp only [V.t, snap]; rfl, h⟩
 | .tup cs, k, h => ⟨.tup cs, [], by simp only [V.t, snap]; rfl, h⟩
theorem snL_t {S : KS} {r : An} : ∀ (xs : List V) {k : List V → List Nat → Option An}, snL xs S k = some r → ∃ ws ls, snapL (abS S) (V.tL xs) = some (V.tL ws, ls.map lc) ∧ k ws ls = some r
 | [], k, h => ⟨[], [], by simp only [V.tL, snapL]; rfl, h⟩
 | x :: xs, k, h => by
  have h : (snV S x fun y l => snL xs S fun ys ls => k (y :: ys) (kapp l ls)) = some r := h
  obtain ⟨w, l, h1, h2⟩ := sn_t x h
  obtain ⟨ws, ls, h3, h4⟩ := snL_t xs h2
  exact ⟨w :: ws, _, by simp only [V.tL, snapL, h1, h3, kapp_eq, List.map_append], h4⟩
end
theorem fr_t {S : KS} {v : V} {k : V → KS → Option An} {r : An} (h : frV S v k = some r) : ∃ w S1, freeze (abS S) v.t = some (w.t, abS S1) ∧ k w S1 = some r := by
 obtain ⟨w, ls, h1, h2⟩ := sn_t v (show (snV S v fun w ls => @Bool.rec (fun _ => Option An) none (k w (kro S ls)) (cl w)) = some r from h)
 rw [br_some] at h2
 refine ⟨w, _, ?_, h2.2⟩
 unfold freeze
 simp only [h1, ← cl_t, h2.1, if_true, abS_ro]
theorem frL_t {r : An} : ∀ (xs : List V) {S : KS} {k : List V → KS → Option An}, frL xs S k = some r → ∃ ws S1, freezeL (abS S) (V.tL xs) = some (V.tL ws, abS S1) ∧ k ws S1 = some r
 | [], S, k, h => ⟨[], S, by simp only [V.tL, freezeL], h⟩
 | x :: xs, S, k, h => by
  obtain ⟨w, S1, h1, h2⟩ := fr_t (show (frV S x fun y S1 => frL xs S1 fun ys S2 => k (y :: ys) S2) = some r from h)
  obtain ⟨ws, S2, h3, h4⟩ := frL_t xs h2
  exact ⟨w :: ws, S2, by simp only [V.tL, freezeL, h1, h3], h4⟩
theorem snArgs_t {S : KS} {r : An} (om : List Nat) : ∀ (xs : List V) (j : Nat) {k : List V → List Nat → Option An}, snArgs xs om j S k = some r → ∃ ws ls, snapArgs om (abS S) j (V.tL xs) = some (V.tL ws, ls.map lc) ∧ k ws ls = some r
 | [], j, k, h => ⟨[], [], by simp only [V.tL, snapArgs]; rfl, h⟩
 | x :: xs, j, k, h => by
  have h : (@Bool.rec (fun _ => Option An) (snV S x fun y l => snArgs xs om (j + 1) S fun ys ls => k (y :: ys) (kapp l ls)) (snArgs xs om (j + 1) S fun ys ls => k (x :: ys) ls) (kin j om)) = some r := h
  rw [br_if, kin_eq] at h
  split at h
  ·rename_i hj
   obtain ⟨ws, ls, h3, h4⟩ := snArgs_t om xs (j + 1) h
   exact ⟨x :: ws, _, by simp only [V.tL, snapArgs, hj, if_true, h3, List.nil_append], h4⟩
  ·rename_i hj
   obtain ⟨w, l, h1, h2⟩ := sn_t x h
   obtain ⟨ws, ls, h3, h4⟩ := snArgs_t om xs (j + 1) h2
   exact ⟨w :: ws, _, by simp only [V.tL, snapArgs, hj, Bool.false_eq_true, if_false, h1, h3, kapp_eq, List.map_append], h4⟩
theorem snA_t {S : KS} {r : An} (s : SL) : ∀ (sn : List Nat) {k : SL → List Nat → Option An}, snA sn S s k = some r → ∃ s1 ls, snapAll (abS S) sn s.t = (s1.t, ls.map lc) ∧ k s1 ls = some r
 | [], k, h => ⟨s, [], rfl, h⟩
 | d :: sn, k, h => by
  obtain ⟨w, l, h1, h2⟩ := sn_t (kg s d) (show (snV S (kg s d) fun w ls => snA sn S s fun s1 l1 => k (.cons d w s1) (kapp ls l1)) = some r from h)
  obtain ⟨s1, ls, h3, h4⟩ := snA_t s sn h2
  exact ⟨.cons d w s1, _, by simp only [snapAll, kg_t, h1, h3, SL.t, kapp_eq, List.map_append], h4⟩
theorem bx_t {L : Nat} {r : An} : ∀ (sn : List Nat) {S : KS} {k : KS → Option An}, bxK sn L S k = some r → ∃ S1, boxAll L sn (abS S) = abS S1 ∧ k S1 = some r
 | [], S, k, h => ⟨S, rfl, h⟩
 | d :: sn, S, k, h => by
  have h : (@Bool.rec (fun _ => Option An) (@Bool.rec (fun _ => Option An) none (@Option.rec KO (fun _ => Nat → KS → (KS → Option An) → Option An) (fun _ S k => k S) bxK1 (kget S (L * 4294967296 + (d - 10000000))) (L * 4294967296 + (d - 10000000)) S (fun S1 => bxK sn L S1 k)) (Nat.blt d 4000000000)) (bxK sn L S k) (Nat.blt d 10000000)) = some r := h
  rw [br_if] at h
  simp only [nblt] at h
  split at h
  ·rename_i hd
   obtain ⟨S1, h1, h2⟩ := bx_t sn h
   refine ⟨S1, ?_, h2⟩
   simp only [boxAll, boxOne, if_pos hd]; exact h1
  ·rename_i hd
   rw [br_some, nblt] at h
   obtain ⟨hlt, h⟩ := h
   have hl : lc (L * 4294967296 + (d - 10000000)) = (L, d - 10000000) := lc_mk _ _ (by omega)
   generalize hkey : L * 4294967296 + (d - 10000000) = key at h hl
   have idle : (∀ bt cs, abS S (L, d - 10000000) ≠ some (.box bt cs)) → bxK sn L S k = some r → ∃ S1, boxAll L (d :: sn) (abS S) = abS S1 ∧ k S1 = some r := by
    intro hn h
    obtain ⟨S1, h1, h2⟩ := bx_t sn h
    refine ⟨S1, ?_, h2⟩
    have : boxOne L (abS S) d = abS S := by
     unfold boxOne
     rw [if_neg hd]
     split
     ·rename_i bt cs hb; exact absurd hb (hn bt cs)
     ·rfl
    simp only [boxAll, this]; exact h1
   cases hg : kget S key with
   | none =>
    rw [hg] at h
    exact idle (by intro bt cs hb; rw [← hl, abS_lc, hg] at hb; cases hb) h
   | some o =>
    rw [hg] at h
    cases o with
    | box bt cs =>
     obtain ⟨us, ls, h1, h2⟩ := snL_t cs (show (snL cs S fun us ls => bxK sn L (kput (kro S ls) key (.box bt us)) k) = some r from h)
     obtain ⟨S1, h3, h4⟩ := bx_t sn h2
     refine ⟨S1, ?_, h4⟩
     have hb : abS S (L, d - 10000000) = some (.box bt (V.tL cs)) := by rw [← hl, abS_lc, hg]; rfl
     have : boxOne L (abS S) d = abS (kput (kro S ls) key (.box bt us)) := by
      unfold boxOne
      rw [if_neg hd]
      simp only [hb, h1]
      rw [abS_put, hl, abS_ro]; rfl
     simp only [boxAll, this]; exact h3
    | arr ro g sz e xs => exact idle (by intro bt cs hb; rw [← hl, abS_lc, hg] at hb; cases hb) h
    | gone => exact idle (by intro bt cs hb; rw [← hl, abS_lc, hg] at hb; cases hb) h
theorem hd_t {h : Head} {L : Nat} {s : SL} {S : KS} {k : SL → KS → Option An} {r : An} (hh : hdK h L s S k = some r) : ∃ s1 S1, headSt L h ⟨s.t, abS S⟩ = ⟨s1.t, abS S1⟩ ∧ k s1 S1 = some r := by
 obtain ⟨kl, lv, sn, fu⟩ := h
 cases sn with
 | nil =>
  refine ⟨_, _, ?_, hh⟩
  simp only [headSt, headOf, boxAll, snapAll, setRo_nil, mkL_t, mkS_t]
 | cons d sn =>
  obtain ⟨S0, h0, hh⟩ := bx_t (d :: sn) (show (bxK (d :: sn) L S fun S => snA (d :: sn) S s fun s1 ls => k (mkL lv L kl (kro S ls) s1) (mkS (kro S ls) (kro S ls) L kl)) = some r from hh)
  obtain ⟨s1, ls, h1, h2⟩ := snA_t s (d :: sn) hh
  refine ⟨_, _, ?_, h2⟩
  simp only [headSt, headOf, h0, h1, ← abS_ro, mkL_t, mkS_t]
theorem lvK_t {h : Head} {L : Nat} {s : SL} {S : KS} {k : SL → KS → Option An} {r : An} (hh : lvK h L s S k = some r) : ∃ s1 S1, leaveSt L h ⟨s.t, abS S⟩ = ⟨s1.t, abS S1⟩ ∧ k s1 S1 = some r := by
 unfold lvK at hh
 unfold leaveSt
 cases hf : h.fu with
 | true =>
  rw [hf] at hh
  simp only [cond_true]
  exact hd_t hh
 | false =>
  rw [hf] at hh
  exact ⟨_, _, by simp only [cond_false, kpL_t], hh⟩
theorem pkOk_t (n : Nat) (S : KS) : ∀ ls : List Nat, pkOk ls n S = packOk n (ls.map lc) (abS S)
 | [] => rfl
 | q :: ls => by
  have ih := pkOk_t n S ls
  show (@Bool.rec (fun _ => Bool) false (pkOk ls n S) (@Option.rec KO (fun _ => Nat → Bool) (fun _ => false) pkOk1 (kget S q) n)) = _
  rw [br_and, ih]
  unfold packOk
  rw [List.map_cons, List.all_cons]
  congr 1
  rw [abS_lc]
  cases kget S q with
  | none => rfl
  | some o =>
   cases o with
   | box bt cs => exact lvL_t _ cs
   | arr ro g sz e xs => rfl
   | gone => rfl
theorem srcOf_lt {ls : List Loc} {m k : Nat} {l : Loc} (h : l.1 = m) (hk : k ≤ l.2) : srcOf ls m k l = ls[l.2 - k]? := by
 unfold srcOf; rw [if_pos ⟨h, hk⟩]
theorem srcOf_no {ls : List Loc} {m k : Nat} {l : Loc} (h : ¬ (l.1 = m ∧ k ≤ l.2)) : srcOf ls m k l = none := by
 unfold srcOf; rw [if_neg h]
theorem kadd_cons (q : Nat) (r : List Nat) (j n : Nat) (ls : List Nat) (key : Nat) (S1 S : KS) : kadd (q :: r) j n ls key S1 S =
  @Option.rec KO (fun _ => KS) (kadd r (j + 1) n ls key S1 S) (fun o => kput (kadd r (j + 1) n ls key S1 S) (key + j) (rnO o S1 (pkF n ls key) n)) (kget S1 q) := rfl
theorem kget_add (n : Nat) (ls : List Nat) (key : Nat) (S1 S : KS) (x : Nat) : ∀ (r : List Nat) (j : Nat), (∀ q ∈ r, (kget S1 q).isSome = true) → kget (kadd r j n ls key S1 S) x =
  if key + j ≤ x ∧ x < key + j + r.length then (match r[x - (key + j)]? with | some q => (kget S1 q).map fun o => rnO o S1 (pkF n ls key) n | none => none) else kget S x
 | [], j, _ => by
  rw [if_neg (by simp only [List.length_nil]; omega)]; rfl
 | q :: r, j, hr => by
  have ih := kget_add n ls key S1 S x r (j + 1) fun q hq => hr q (List.mem_cons_of_mem _ hq)
  rw [kadd_cons]
  have hq := hr q List.mem_cons_self
  obtain ⟨o, ho⟩ := Option.isSome_iff_exists.1 hq
  rw [ho]
  show kget (kput _ (key + j) _) x = _
  rw [kget_put, ih]
  by_cases hx : x = key + j
  ·subst hx
   simp [ho]
  ·rw [if_neg hx]
   by_cases h : key + (j + 1) ≤ x ∧ x < key + (j + 1) + r.length
   ·have h' : key + j ≤ x ∧ x < key + j + (q :: r).length := by simp only [List.length_cons]; omega
    rw [if_pos h, if_pos h']
    have : x - (key + j) = (x - (key + (j + 1))) + 1 := by omega
    rw [this, List.getElem?_cons_succ]
   ·have h' : ¬ (key + j ≤ x ∧ x < key + j + (q :: r).length) := by simp only [List.length_cons]; omega
    rw [if_neg h, if_neg h']
theorem kadd_t {n m k0 key : Nat} {ls : List Nat} {S1 S : KS} (hk : key = m * 4294967296 + k0) (hs : k0 + ls.length < 4294967296) (hp : packOk n (ls.map lc) (abS S1) = true) :
  addS n (ls.map lc) m k0 (abS S1) (abS S) = abS (kadd ls 0 n ls key S1 S) := by
 have hr : ∀ q ∈ ls, (kget S1 q).isSome = true := by
  intro q hq
  unfold packOk at hp
  rw [List.all_eq_true] at hp
  have := hp (lc q) (List.mem_map_of_mem hq)
  rw [abS_lc] at this
  cases h : kget S1 q with
  | none => rw [h] at this; cases this
  | some o => rfl
 have ren := fun o => rnzO_t (S := S1) (n := n) (packF_t n m key ls hk hs) o
 funext l
 unfold addS
 by_cases h : l.2 < 4294967296
 ·rw [abS_in S h, abS_in _ h, kget_add n ls key S1 S (lk l) ls 0 hr]
  by_cases h1 : l.1 = m ∧ k0 ≤ l.2
  ·rw [srcOf_lt h1.1 h1.2, List.getElem?_map]
   have e : lk l - (key + 0) = l.2 - k0 := by simp only [lk, hk, h1.1]; omega
   by_cases h2 : l.2 - k0 < ls.length
   ·have h3 : key + 0 ≤ lk l ∧ lk l < key + 0 + ls.length := by simp only [lk, hk, h1.1]; omega
    rw [if_pos h3, e, List.getElem?_eq_getElem h2]
    simp only [Option.map_some]
    rw [abS_lc]
    cases kget S1 ls[l.2 - k0] with
    | none => rfl
    | some o => simp only [Option.map_some, ren]
   ·have h3 : ¬ (key + 0 ≤ lk l ∧ lk l < key + 0 + ls.length) := by simp only [lk, hk, h1.1]; omega
    rw [if_neg h3, List.getElem?_eq_none (by omega)]
    rfl
  ·rw [srcOf_no h1]
   have h3 : ¬ (key + 0 ≤ lk l ∧ lk l < key + 0 + ls.length) := by
    simp only [lk, hk]
    intro hh
    apply h1
    constructor <;> omega
   rw [if_neg h3]
 ·have h1 : srcOf (ls.map lc) m k0 l = none := by
   unfold srcOf
   split
   ·rename_i hh
    rw [List.getElem?_eq_none]
    rw [List.length_map]; omega
   ·rfl
  rw [h1, abS_out S h, abS_out _ h]
end Go.TM
