/- The fast evaluator is sound: values and stores. -/
import Derived.Test.YtgmclgajlofljaaGreatDoorTmK
set_option linter.all false
namespace Go.TM
open Go
theorem br_some {α : Type} {c : Bool} {x : Option α} {r : α} : (@Bool.rec (fun _ => Option α) none x c = some r) ↔ c = true ∧ x = some r := by cases c <;> simp
theorem br_none {α : Type} {c : Bool} {x : Option α} {r : α} : (@Bool.rec (fun _ => Option α) x none c = some r) ↔ c = false ∧ x = some r := by cases c <;> simp
theorem br_if {α : Type} {c : Bool} {a b : α} : (@Bool.rec (fun _ => α) b a c) = if c = true then a else b := by cases c <;> rfl
theorem br_and {c a : Bool} : (@Bool.rec (fun _ => Bool) false a c) = (c && a) := by cases c <;> rfl
theorem br_or {c a : Bool} : (@Bool.rec (fun _ => Bool) a true c) = (c || a) := by cases c <;> rfl
theorem br_not {c : Bool} : (@Bool.rec (fun _ => Bool) true false c) = !c := by cases c <;> rfl
theorem op_some {α β : Type} {o : Option α} {f : α → Option β} {r : β} : (@Option.rec α (fun _ => Option β) none f o = some r) ↔ ∃ v, o = some v ∧ f v = some r := by cases o <;> simp
theorem nbeq (a b : Nat) : (Nat.beq a b = true) ↔ a = b := by rw [Nat.beq_eq]
theorem nble (a b : Nat) : (Nat.ble a b = true) ↔ a ≤ b := by rw [Nat.ble_eq]
theorem nblt (a b : Nat) : (Nat.blt a b = true) ↔ a < b := by rw [Nat.blt_eq]
theorem nbeq_f (a b : Nat) : (Nat.beq a b = false) ↔ a ≠ b := by rw [← Bool.not_eq_true, nbeq]
theorem nbeq_d (a b : Nat) : Nat.beq a b = decide (a = b) := by
 by_cases h : a = b
 ·rw [decide_eq_true h, nbeq]; exact h
 ·rw [decide_eq_false h, nbeq_f]; exact h
theorem nblt_d (a b : Nat) : Nat.blt a b = decide (a < b) := by
 by_cases h : a < b
 ·rw [decide_eq_true h, nblt]; exact h
 ·rw [decide_eq_false h, ← Bool.not_eq_true, nblt]; exact h
theorem nble_d (a b : Nat) : Nat.ble a b = decide (a ≤ b) := by
 by_cases h : a ≤ b
 ·rw [decide_eq_true h, nble]; exact h
 ·rw [decide_eq_false h, ← Bool.not_eq_true, nble]; exact h
theorem lk_lc (k : Nat) : lk (lc k) = k := by simp only [lk, lc]; omega
theorem lc_snd (k : Nat) : (lc k).2 < 4294967296 := by simp only [lc]; omega
theorem lc_fst (k : Nat) : (lc k).1 = k / 4294967296 := rfl
theorem lc_lk {l : Loc} (h : l.2 < 4294967296) : lc (lk l) = l := by
 obtain ⟨a, b⟩ := l
 simp only at h
 simp only [lk, lc, Prod.mk.injEq]
 omega
theorem lc_inj {a b : Nat} (h : lc a = lc b) : a = b := by rw [← lk_lc a, h, lk_lc]
theorem lc_mk (L d : Nat) (h : d < 4294967296) : lc (L * 4294967296 + d) = (L, d) := by simp only [lc, Prod.mk.injEq]; omega
noncomputable def abS (S : KS) : Store := fun l => if l.2 < 4294967296 then (kget S (lk l)).map KO.t else none
theorem abS_lc (S : KS) (k : Nat) : abS S (lc k) = (kget S k).map KO.t := by
 unfold abS; rw [if_pos (lc_snd k), lk_lc]
theorem bas_lt (e k : Nat) : e < bas k ↔ lev e < lev k := by
 have h1 : bas k = k / 4294967296 * 4294967296 := rfl
 have h2 : lev e = e / 4294967296 := rfl
 have h3 : lev k = k / 4294967296 := rfl
 omega
theorem lev_ch {k : Nat} : Nat.div k 137438953472 = lev k / 32 := (Nat.div_div_eq_div_mul k 4294967296 32).symm
theorem lev_lc {l : Loc} (h : l.2 < 4294967296) : lev (lk l) = l.1 := by show lk l / 4294967296 = l.1; simp only [lk]; omega
theorem fget_nil (k : Nat) : fget [] k (bas k) = none := rfl
theorem fget_consb (e : Nat × KO) (F : KT) (k b : Nat) : fget (e :: F) k b = if e.1 = k then some e.2 else if e.1 < b then none else fget F k b := by
 show (@Bool.rec (fun _ => Option KO) (@Bool.rec (fun _ => Option KO) (fget F k b) none (Nat.blt e.1 b)) (some e.2) (Nat.beq e.1 k)) = _
 rw [br_if, br_if]; simp only [nbeq, nblt]
theorem fget_cons (e : Nat × KO) (F : KT) (k : Nat) : fget (e :: F) k (bas k) = if e.1 = k then some e.2 else if lev e.1 < lev k then none else fget F k (bas k) := by
 rw [fget_consb]; simp only [bas_lt]
theorem cget_nil (c : Nat) : cget [] c = [] := rfl
theorem cget_cons (e : Nat × KT) (S : KS) (c : Nat) : cget (e :: S) c = if e.1 = c then e.2 else if e.1 < c then [] else cget S c := by
 show (@Bool.rec (fun _ => KT) (@Bool.rec (fun _ => KT) (cget S c) [] (Nat.blt e.1 c)) e.2 (Nat.beq e.1 c)) = _
 rw [br_if, br_if]; simp only [nbeq, nblt]
theorem kget_eq (S : KS) (k : Nat) : kget S k = fget (cget S (lev k / 32)) k (bas k) := by unfold kget; rw [lev_ch]
theorem kget_nil (k : Nat) : kget [] k = none := rfl
theorem fput_consb (e : Nat × KO) (F : KT) (k : Nat) (o : KO) (b : Nat) : fput (e :: F) k o b = if e.1 = k then (k, o) :: F else if e.1 < b then (k, o) :: e :: F else e :: fput F k o b := by
 show (@Bool.rec (fun _ => KT) (@Bool.rec (fun _ => KT) (e :: fput F k o b) ((k, o) :: e :: F) (Nat.blt e.1 b)) ((k, o) :: F) (Nat.beq e.1 k)) = _
 rw [br_if, br_if]; simp only [nbeq, nblt]
theorem fput_cons (e : Nat × KO) (F : KT) (k : Nat) (o : KO) : fput (e :: F) k o (bas k) = if e.1 = k then (k, o) :: F else if lev e.1 < lev k then (k, o) :: e :: F else e :: fput F k o (bas k) := by
 rw [fput_consb]; simp only [bas_lt]
theorem fget_put (k : Nat) (o : KO) (x : Nat) : ∀ F, fget (fput F k o (bas k)) x (bas x) = if x = k then some o else fget F x (bas x)
 | [] => by
  show fget [(k, o)] x (bas x) = _
  rw [fget_cons]
  by_cases h : k = x
  ·subst h; simp
  ·have : ¬ x = k := fun e => h e.symm
   simp [h, this, fget_nil]
 | e :: F => by
  have ih := fget_put k o x F
  rw [fput_cons, fget_cons]
  by_cases h1 : e.1 = k
  ·rw [if_pos h1, fget_cons]
   by_cases hx : x = k
   ·subst hx; simp
   ·have h2 : ¬ k = x := fun e => hx e.symm
    have h3 : ¬ e.1 = x := fun e' => hx (by omega)
    simp [hx, h2, h3, h1]
  ·rw [if_neg h1]
   by_cases h2 : lev e.1 < lev k
   ·rw [if_pos h2, fget_cons, fget_cons]
    by_cases hx : x = k
    ·subst hx; simp
    ·have h3 : ¬ k = x := fun e => hx e.symm
     simp only [if_neg h3, if_neg hx]
     by_cases h4 : lev k < lev x
     ·have h5 : ¬ e.1 = x := fun e' => by rw [e'] at h2; omega
      have h6 : lev e.1 < lev x := by omega
      simp [h4, h5, h6]
     ·simp [h4]
   ·rw [if_neg h2, fget_cons, ih]
    by_cases hx : x = k
    ·subst hx; simp [h1, h2]
    ·simp [hx]
theorem cget_put (c : Nat) (F : KT) (x : Nat) : ∀ S, cget (cput S c F) x = if x = c then F else cget S x
 | [] => by
  show cget [(c, F)] x = _
  rw [cget_cons]
  by_cases h : c = x
  ·subst h; simp
  ·have : ¬ x = c := fun e => h e.symm
   simp [h, this, cget_nil]
 | e :: S => by
  have ih := cget_put c F x S
  have hc : cput (e :: S) c F = if e.1 = c then (c, F) :: S else if e.1 < c then (c, F) :: e :: S else e :: cput S c F := by
   show (@Bool.rec (fun _ => KS) (@Bool.rec (fun _ => KS) (e :: cput S c F) ((c, F) :: e :: S) (Nat.blt e.1 c)) ((c, F) :: S) (Nat.beq e.1 c)) = _
   rw [br_if, br_if]; simp only [nbeq, nblt]
  rw [hc, cget_cons]
  by_cases h1 : e.1 = c
  ·rw [if_pos h1, cget_cons]
   by_cases hx : x = c
   ·subst hx; simp
   ·have h2 : ¬ c = x := fun e => hx e.symm
    have h3 : ¬ e.1 = x := fun e' => hx (by omega)
    simp [hx, h2, h3, h1]
  ·rw [if_neg h1]
   by_cases h2 : e.1 < c
   ·rw [if_pos h2, cget_cons, cget_cons]
    by_cases hx : x = c
    ·subst hx; simp
    ·have h3 : ¬ c = x := fun e => hx e.symm
     simp only [if_neg h3, if_neg hx]
     by_cases h4 : c < x
     ·have h5 : ¬ e.1 = x := by omega
      have h6 : e.1 < x := by omega
      simp [h4, h5, h6]
     ·simp [h4]
   ·rw [if_neg h2, cget_cons, ih]
    by_cases hx : x = c
    ·subst hx; simp [h1, h2]
    ·simp [hx]
theorem kget_put (k : Nat) (o : KO) (x : Nat) (S : KS) : kget (kput S k o) x = if x = k then some o else kget S x := by
 have e : kput S k o = cput S (lev k / 32) (fput (cget S (lev k / 32)) k o (bas k)) := by unfold kput; rw [lev_ch]
 rw [e, kget_eq, kget_eq, cget_put]
 by_cases h : lev x / 32 = lev k / 32
 ·rw [if_pos h, fget_put, h]
 ·rw [if_neg h]
  have : ¬ x = k := fun e => h (by rw [e])
  rw [if_neg this]
theorem abS_put (S : KS) (k : Nat) (o : KO) : abS (kput S k o) = upd (abS S) (lc k) o.t := by
 funext l
 unfold abS upd
 by_cases h : l.2 < 4294967296
 ·simp only [if_pos h, kget_put]
  by_cases hk : lk l = k
  ·have : l = lc k := by rw [← hk, lc_lk h]
   rw [if_pos hk, if_pos this]; rfl
  ·have : ¬ l = lc k := fun e => hk (by rw [e, lk_lc])
   rw [if_neg hk, if_neg this]
 ·have : ¬ l = lc k := fun e => h (by rw [e]; exact lc_snd k)
  simp only [if_neg h, if_neg this]
theorem abS_nil : abS [] = emp := by
 funext l; unfold abS emp; rw [kget_nil]; split <;> rfl
theorem ftr_cons (e : Nat × KO) (F : KT) (L : Nat) : ftr (e :: F) L = if lev e.1 ≤ L then e :: F else ftr F L := by
 show (@Bool.rec (fun _ => KT) (ftr F L) (e :: F) (Nat.ble (lev e.1) L)) = _
 rw [br_if]; simp only [nble]
theorem fget_tr (L k : Nat) : ∀ F, fget (ftr F L) k (bas k) = if lev k ≤ L then fget F k (bas k) else none
 | [] => by rw [show ftr [] L = [] from rfl, fget_nil]; simp
 | e :: F => by
  have ih := fget_tr L k F
  rw [ftr_cons]
  by_cases h : lev e.1 ≤ L
  ·rw [if_pos h]
   by_cases hk : lev k ≤ L
   ·rw [if_pos hk]
   ·rw [if_neg hk, fget_cons]
    have h1 : ¬ e.1 = k := fun e' => hk (by rw [← e']; exact h)
    have h2 : lev e.1 < lev k := by omega
    simp [h1, h2]
  ·rw [if_neg h, ih, fget_cons]
   by_cases hk : lev k ≤ L
   ·have h1 : ¬ e.1 = k := fun e' => h (by rw [e']; exact hk)
    have h2 : ¬ lev e.1 < lev k := by omega
    simp [h1, h2]
   ·simp [hk]
theorem ktr_cons (e : Nat × KT) (S : KS) (L : Nat) : ktr (e :: S) L = if e.1 = L / 32 then (e.1, ftr e.2 L) :: S else if e.1 < L / 32 then e :: S else ktr S L := by
 show (@Bool.rec (fun _ => KS) (@Bool.rec (fun _ => KS) (ktr S L) (e :: S) (Nat.blt e.1 (L / 32))) ((e.1, ftr e.2 L) :: S) (Nat.beq e.1 (L / 32))) = _
 rw [br_if, br_if]; simp only [nbeq, nblt]
theorem cget_tr (L c : Nat) : ∀ S, cget (ktr S L) c = if c < L / 32 then cget S c else if c = L / 32 then ftr (cget S c) L else []
 | [] => by
  show [] = _
  rw [cget_nil]
  split
  ·rfl
  ·split <;> rfl
 | e :: S => by
  have ih := cget_tr L c S
  rw [ktr_cons]
  by_cases h1 : e.1 = L / 32
  ·rw [if_pos h1, cget_cons, cget_cons]
   by_cases hc : c < L / 32
   ·have h2 : ¬ e.1 = c := by omega
    have h3 : ¬ e.1 < c := by omega
    simp [hc, h2, h3]
   ·by_cases hc2 : c = L / 32
    ·have h2 : e.1 = c := by omega
     simp [hc2, h1]
    ·have h2 : ¬ e.1 = c := by omega
     have h3 : e.1 < c := by omega
     simp [hc, hc2, h2, h3]
  ·rw [if_neg h1]
   by_cases h2 : e.1 < L / 32
   ·rw [if_pos h2]
    by_cases hc : c < L / 32
    ·rw [if_pos hc]
    ·rw [if_neg hc, cget_cons]
     have h3 : ¬ e.1 = c := by omega
     have h4 : e.1 < c := by omega
     simp only [if_neg h3, if_pos h4]
     split <;> rfl
   ·rw [if_neg h2, ih, cget_cons]
    by_cases hc : c < L / 32
    ·have h3 : ¬ e.1 = c := by omega
     have h4 : ¬ e.1 < c := by omega
     simp [hc, h3, h4]
    ·by_cases hc2 : c = L / 32
     ·have h3 : ¬ e.1 = c := by omega
      have h4 : ¬ e.1 < c := by omega
      simp only [if_neg hc, if_pos hc2, if_neg h3, if_neg h4]
     ·simp only [if_neg hc, if_neg hc2]
theorem kget_tr (L k : Nat) (S : KS) : kget (ktr S L) k = if lev k ≤ L then kget S k else none := by
 rw [kget_eq, kget_eq, cget_tr]
 by_cases h1 : lev k / 32 < L / 32
 ·have : lev k ≤ L := by omega
  rw [if_pos h1, if_pos this]
 ·rw [if_neg h1]
  by_cases h2 : lev k / 32 = L / 32
  ·rw [if_pos h2, fget_tr]
  ·have : ¬ lev k ≤ L := by omega
   rw [if_neg h2, if_neg this, fget_nil]
theorem abS_tr (S : KS) (L : Nat) : abS (ktr S L) = trunc L (abS S) := by
 funext l
 unfold abS trunc
 by_cases h : l.2 < 4294967296
 ·simp only [if_pos h, kget_tr, lev_lc h]
  split <;> rfl
 ·simp [h]
theorem flay_cons (e : Nat × KO) (F G : KT) (L : Nat) : flay (e :: F) G L = if lev e.1 ≤ L then G else e :: flay F G L := by
 show (@Bool.rec (fun _ => KT) (e :: flay F G L) G (Nat.ble (lev e.1) L)) = _
 rw [br_if]; simp only [nble]
theorem fget_lay (G : KT) (L k : Nat) (hG : L < lev k → fget G k (bas k) = none) : ∀ F, fget (flay F G L) k (bas k) = if lev k ≤ L then fget G k (bas k) else fget F k (bas k)
 | [] => by
  show fget G k (bas k) = _
  by_cases h : lev k ≤ L
  ·rw [if_pos h]
  ·rw [if_neg h, hG (by omega), fget_nil]
 | e :: F => by
  have ih := fget_lay G L k hG F
  rw [flay_cons]
  by_cases h : lev e.1 ≤ L
  ·rw [if_pos h]
   by_cases hk : lev k ≤ L
   ·rw [if_pos hk]
   ·rw [if_neg hk, hG (by omega), fget_cons]
    have h1 : ¬ e.1 = k := fun e' => hk (by rw [← e']; exact h)
    have h2 : lev e.1 < lev k := by omega
    simp [h1, h2]
  ·rw [if_neg h, fget_cons, ih, fget_cons]
   by_cases hk : lev k ≤ L
   ·have h1 : ¬ e.1 = k := fun e' => h (by rw [e']; exact hk)
    have h2 : ¬ lev e.1 < lev k := by omega
    simp [h1, h2, hk]
   ·simp [hk]
theorem klay_cons (e : Nat × KT) (S S1 : KS) (L : Nat) : klay (e :: S) S1 L = if e.1 = L / 32 then klay2 e.2 e.1 L (ktr S1 L) else if e.1 < L / 32 then ktr S1 L else e :: klay S S1 L := by
 show (@Bool.rec (fun _ => KS) (@Bool.rec (fun _ => KS) (e :: klay S S1 L) (ktr S1 L) (Nat.blt e.1 (L / 32))) (klay2 e.2 e.1 L (ktr S1 L)) (Nat.beq e.1 (L / 32))) = _
 rw [br_if, br_if]; simp only [nbeq, nblt]
theorem cget_lay (S1 : KS) (L c : Nat) : ∀ S, cget (klay S S1 L) c = if c < L / 32 then cget S1 c else if c = L / 32 then flay (cget S c) (cget (ktr S1 L) c) L else cget S c
 | [] => by
  show cget (ktr S1 L) c = _
  rw [cget_tr]
  by_cases h1 : c < L / 32
  ·rw [if_pos h1, if_pos h1]
  ·rw [if_neg h1, if_neg h1]
   by_cases h2 : c = L / 32
   ·rw [if_pos h2, if_pos h2, cget_nil]; rfl
   ·rw [if_neg h2, if_neg h2, cget_nil]
 | e :: S => by
  have ih := cget_lay S1 L c S
  rw [klay_cons]
  by_cases h1 : e.1 = L / 32
  ·rw [if_pos h1]
   show cget (cput (ktr S1 L) e.1 (flay e.2 (cget (ktr S1 L) e.1) L)) c = _
   rw [cget_put, cget_cons]
   by_cases hc : c < L / 32
   ·have h2 : ¬ c = e.1 := by omega
    rw [if_neg h2, if_pos hc, cget_tr, if_pos hc]
   ·rw [if_neg hc]
    by_cases hc2 : c = L / 32
    ·have h2 : c = e.1 := by omega
     rw [if_pos h2, if_pos hc2, if_pos h2.symm, h2]
    ·have h2 : ¬ c = e.1 := by omega
     have h3 : ¬ e.1 = c := fun e => h2 e.symm
     have h4 : e.1 < c := by omega
     rw [if_neg h2, if_neg hc2, if_neg h3, if_pos h4, cget_tr, if_neg hc, if_neg hc2]
  ·rw [if_neg h1]
   by_cases h2 : e.1 < L / 32
   ·rw [if_pos h2, cget_cons, cget_tr]
    by_cases hc : c < L / 32
    ·rw [if_pos hc, if_pos hc]
    ·rw [if_neg hc, if_neg hc]
     have h3 : ¬ e.1 = c := by omega
     have h4 : e.1 < c := by omega
     rw [if_neg h3, if_pos h4]
     by_cases hc2 : c = L / 32
     ·rw [if_pos hc2, if_pos hc2]; rfl
     ·rw [if_neg hc2, if_neg hc2]
   ·rw [if_neg h2, cget_cons, ih, cget_cons]
    by_cases hc : c < L / 32
    ·have h3 : ¬ e.1 = c := by omega
     have h4 : ¬ e.1 < c := by omega
     simp [hc, h3, h4]
    ·by_cases hc2 : c = L / 32
     ·have h3 : ¬ e.1 = c := by omega
      have h4 : ¬ e.1 < c := by omega
      simp only [if_neg hc, if_pos hc2, if_neg h3, if_neg h4]
     ·simp only [if_neg hc, if_neg hc2]
theorem kget_lay (S1 : KS) (L k : Nat) (S : KS) : kget (klay S S1 L) k = if lev k ≤ L then kget S1 k else kget S k := by
 rw [kget_eq, kget_eq, kget_eq, cget_lay]
 by_cases h1 : lev k / 32 < L / 32
 ·have : lev k ≤ L := by omega
  rw [if_pos h1, if_pos this]
 ·rw [if_neg h1]
  by_cases h2 : lev k / 32 = L / 32
  ·have e : cget (ktr S1 L) (lev k / 32) = ftr (cget S1 (lev k / 32)) L := by rw [cget_tr, if_neg h1, if_pos h2]
   rw [if_pos h2, e, fget_lay, fget_tr]
   ·by_cases h3 : lev k ≤ L
    ·rw [if_pos h3, if_pos h3, if_pos h3]
    ·rw [if_neg h3, if_neg h3]
   ·intro h; rw [fget_tr, if_neg (by omega)]
  ·have : ¬ lev k ≤ L := by omega
   rw [if_neg h2, if_neg this]
theorem abS_lay (S S1 : KS) (L : Nat) : abS (klay S S1 L) = lay L (abS S1) (abS S) := by
 funext l
 unfold abS lay
 by_cases h : l.2 < 4294967296
 ·simp only [if_pos h, kget_lay, lev_lc h]
  by_cases hl : l.1 ≤ L
  ·rw [if_pos hl, Nat.ble_eq_true_of_le hl]; rfl
  ·rw [if_neg hl]
   have : Nat.ble l.1 L = false := by
    cases hb : Nat.ble l.1 L with
    | false => rfl
    | true => exact absurd (Nat.le_of_ble_eq_true hb) hl
   rw [this]; rfl
 ·simp [h]
theorem abS_ro1 (S : KS) (l : Nat) : abS (kro1 S l) = setRo (abS S) [lc l] := by
 have hne : ∀ o, abS S (lc l) = some o → (∀ g sz e xs, o ≠ .arr false g sz e xs) → abS S = setRo (abS S) [lc l] := by
  intro o h ho
  funext m
  unfold setRo
  by_cases hm : m = lc l
  ·subst hm
   rw [h]
   cases o with
   | arr ro g sz e xs => cases ro with
    | true => rfl
    | false => exact absurd rfl (ho g sz e xs)
   | _ => rfl
  ·have hc : ([lc l].contains m) = false := by simpa using hm
   rw [hc]
   cases abS S m with
   | none => rfl
   | some o => cases o <;> simp
 have hl := abS_lc S l
 unfold kro1
 cases hk : kget S l with
 | none =>
  rw [hk] at hl
  show abS S = _
  funext m
  unfold setRo
  by_cases hm : m = lc l
  ·subst hm; rw [hl]; rfl
  ·have hc : ([lc l].contains m) = false := by simpa using hm
   rw [hc]
   cases abS S m with
   | none => rfl
   | some o => cases o <;> simp
 | some o =>
  rw [hk] at hl
  cases o with
  | box bt cs => exact hne _ hl (fun _ _ _ _ => by simp [KO.t])
  | gone => exact hne _ hl (fun _ _ _ _ => by simp [KO.t])
  | arr ro g sz e xs =>
   cases ro with
   | true => exact hne _ hl (fun _ _ _ _ => by simp [KO.t])
   | false =>
    show abS (kput S l (.arr true g sz e xs)) = _
    rw [abS_put]
    funext m
    unfold setRo upd
    by_cases hm : m = lc l
    ·subst hm
     rw [if_pos rfl, hl]
     simp [KO.t]
    ·rw [if_neg hm]
     have hc : ([lc l].contains m) = false := by simpa using hm
     rw [hc]
     cases abS S m with
     | none => rfl
     | some o => cases o <;> simp
theorem setRo_cons (S : Store) (l : Loc) (ls : List Loc) : setRo (setRo S [l]) ls = setRo S (l :: ls) := by
 funext m
 unfold setRo
 cases S m with
 | none => rfl
 | some o =>
  cases o with
  | arr ro g sz e xs =>
   simp only [List.contains_cons, List.contains_nil, Bool.or_false, Bool.or_assoc]
  | _ => rfl
theorem abS_ro : ∀ (ls : List Nat) (S : KS), abS (kro S ls) = setRo (abS S) (ls.map lc)
 | [], S => (setRo_nil _).symm
 | x :: xs, S => by
  show abS (kro (kro1 S x) xs) = _
  rw [abS_ro xs, abS_ro1, setRo_cons]; rfl
theorem fresh_iff (S : KS) (k : Nat) : fresh S k = (abS S (lc k)).isNone := by
 rw [abS_lc]; unfold fresh; cases kget S k <;> rfl
mutual
theorem cl_t : ∀ v : V, cl v = closed v.t
 | .u => by simp only [V.t, closed]; rfl
 | .p c n => by simp only [V.t, closed, isSc]; rfl
 | .m c n => by simp only [V.t, closed, isSc]; rfl
 | .b q => by simp only [V.t, closed, isSc]; rfl
 | .s l n => by simp only [V.t, closed, isSc]; rfl
 | .np => by simp only [V.t, closed, isSc]; rfl
 | .ns => by simp only [V.t, closed, isSc]; rfl
 | .nf => by simp only [V.t, closed, isSc]; rfl
 | .ni => by simp only [V.t, closed, isSc]; rfl
 | .fn f => by simp only [V.t, closed, isSc]; rfl
 | .lst sz xs => by simp only [V.t, closed]; exact clL_t xs
 | .own l g off n => by simp only [V.t, closed]; rfl
 | .ptr l off => by simp only [V.t, closed]; rfl
 | .lptr sz xs i off => by simp only [V.t, closed]; rfl
 | .aptr l g i off => by simp only [V.t, closed]; rfl
 | .clo f cs => by simp only [V.t, closed]; rfl
 | .agg cs => by
  simp only [V.t, closed]
  show (@Bool.rec (fun _ => Bool) false (kall oneV cs) (clL cs)) = _
  rw [br_and, clL_t cs, kall_eq, oneL_t cs]
 | .tup cs => by simp only [V.t, closed]; rfl
theorem clL_t : ∀ xs : List V, clL xs = closedL (V.tL xs)
 | [] => by simp only [V.tL, closedL]; rfl
 | x :: xs => by
  simp only [V.tL, closedL]
  show (@Bool.rec (fun _ => Bool) false (clL xs) (cl x)) = _
  rw [br_and, cl_t x, clL_t xs]
theorem one_t : ∀ v : V, oneV v = one v.t
 | .u => by simp only [V.t, one]; rfl
 | .p c n => by simp only [V.t, one]; rfl
 | .m c n => by simp only [V.t, one]; rfl
 | .b q => by simp only [V.t, one]; rfl
 | .s l n => by simp only [V.t, one]; rfl
 | .np => by simp only [V.t, one]; rfl
 | .ns => by simp only [V.t, one]; rfl
 | .nf => by simp only [V.t, one]; rfl
 | .ni => by simp only [V.t, one]; rfl
 | .fn f => by simp only [V.t, one]; rfl
 | .lst sz xs => by simp only [V.t, one]; rfl
 | .own l g off n => by simp only [V.t, one]; rfl
 | .ptr l off => by simp only [V.t, one]; rfl
 | .lptr sz xs i off => by simp only [V.t, one]; rfl
 | .aptr l g i off => by simp only [V.t, one]; rfl
 | .clo f cs => by simp only [V.t, one]; rfl
 | .agg cs => by simp only [V.t, one]; rfl
 | .tup cs => by simp only [V.t, one]; rfl
theorem oneL_t : ∀ xs : List V, xs.all oneV = (V.tL xs).all one
 | [] => by simp only [V.tL]; rfl
 | x :: xs => by simp only [V.tL, List.all_cons, one_t x, oneL_t xs]
end
mutual
theorem lv_t (n : Nat) : ∀ v : V, lvV v n = lvle n v.t
 | .own l g off m => by simp only [V.t, lvle, lc_fst]; exact nble_d _ _
 | .ptr l off => by simp only [V.t, lvle, lc_fst]; exact nble_d _ _
 | .aptr l g i off => by simp only [V.t, lvle, lc_fst]; exact nble_d _ _
 | .clo f cs => by simp only [V.t, lvle]; exact lvL_t n cs
 | .agg cs => by simp only [V.t, lvle]; exact lvL_t n cs
 | .tup cs => by simp only [V.t, lvle]; exact lvL_t n cs
 | .u => by simp only [V.t, lvle]; rfl
 | .p c m => by simp only [V.t, lvle]; rfl
 | .m c m => by simp only [V.t, lvle]; rfl
 | .b q => by simp only [V.t, lvle]; rfl
 | .s l m => by simp only [V.t, lvle]; rfl
 | .np => by simp only [V.t, lvle]; rfl
 | .ns => by simp only [V.t, lvle]; rfl
 | .nf => by simp only [V.t, lvle]; rfl
 | .ni => by simp only [V.t, lvle]; rfl
 | .fn f => by simp only [V.t, lvle]; rfl
 | .lst sz xs => by simp only [V.t, lvle]; rfl
 | .lptr sz xs i off => by simp only [V.t, lvle]; rfl
theorem lvL_t (n : Nat) : ∀ xs : List V, lvL xs n = lvleL n (V.tL xs)
 | [] => by simp only [V.tL, lvleL]; rfl
 | x :: xs => by
  simp only [V.tL, lvleL]
  show (@Bool.rec (fun _ => Bool) false (lvL xs n) (lvV x n)) = _
  rw [br_and, lv_t n x, lvL_t n xs]
end
mutual
theorem hl_t : ∀ v : V, hlV v = hasLst v.t
 | .own l g off m => by simp only [V.t, hasLst]; rfl
 | .ptr l off => by simp only [V.t, hasLst]; rfl
 | .aptr l g i off => by simp only [V.t, hasLst]; rfl
 | .clo f cs => by simp only [V.t, hasLst]; exact hlL_t cs
 | .agg cs => by simp only [V.t, hasLst]; exact hlL_t cs
 | .tup cs => by simp only [V.t, hasLst]; exact hlL_t cs
 | .u => by simp only [V.t, hasLst]; rfl
 | .p c m => by simp only [V.t, hasLst]; rfl
 | .m c m => by simp only [V.t, hasLst]; rfl
 | .b q => by simp only [V.t, hasLst]; rfl
 | .s l m => by simp only [V.t, hasLst]; rfl
 | .np => by simp only [V.t, hasLst]; rfl
 | .ns => by simp only [V.t, hasLst]; rfl
 | .nf => by simp only [V.t, hasLst]; rfl
 | .ni => by simp only [V.t, hasLst]; rfl
 | .fn f => by simp only [V.t, hasLst]; rfl
 | .lst sz xs => by simp only [V.t, hasLst]; rfl
 | .lptr sz xs i off => by simp only [V.t, hasLst]; rfl
theorem hlL_t : ∀ xs : List V, hlL xs = hasLstL (V.tL xs)
 | [] => by simp only [V.tL, hasLstL]; rfl
 | x :: xs => by
  simp only [V.tL, hasLstL]
  show (@Bool.rec (fun _ => Bool) (hlL xs) true (hlV x)) = _
  rw [br_or, hl_t x, hlL_t xs]
end
mutual
theorem loc_t (n : Nat) : ∀ v : V, locsOf n v.t = (locV v n).map lc
 | .own l g off m => by
  simp only [V.t, locsOf, lc_fst]
  show _ = (@Bool.rec (fun _ => List Nat) [] [l] (Nat.beq (l / 4294967296) n)).map lc
  rw [br_if]; simp only [nbeq]; split <;> rename_i h <;> simp [h]
 | .ptr l off => by
  simp only [V.t, locsOf, lc_fst]
  show _ = (@Bool.rec (fun _ => List Nat) [] [l] (Nat.beq (l / 4294967296) n)).map lc
  rw [br_if]; simp only [nbeq]; split <;> rename_i h <;> simp [h]
 | .aptr l g i off => by
  simp only [V.t, locsOf, lc_fst]
  show _ = (@Bool.rec (fun _ => List Nat) [] [l] (Nat.beq (l / 4294967296) n)).map lc
  rw [br_if]; simp only [nbeq]; split <;> rename_i h <;> simp [h]
 | .clo f cs => by simp only [V.t, locsOf]; exact locL_t n cs
 | .agg cs => by simp only [V.t, locsOf]; exact locL_t n cs
 | .tup cs => by simp only [V.t, locsOf]; exact locL_t n cs
 | .u => by simp only [V.t, locsOf]; rfl
 | .p c m => by simp only [V.t, locsOf]; rfl
 | .m c m => by simp only [V.t, locsOf]; rfl
 | .b q => by simp only [V.t, locsOf]; rfl
 | .s l m => by simp only [V.t, locsOf]; rfl
 | .np => by simp only [V.t, locsOf]; rfl
 | .ns => by simp only [V.t, locsOf]; rfl
 | .nf => by simp only [V.t, locsOf]; rfl
 | .ni => by simp only [V.t, locsOf]; rfl
 | .fn f => by simp only [V.t, locsOf]; rfl
 | .lst sz xs => by simp only [V.t, locsOf]; rfl
 | .lptr sz xs i off => by simp only [V.t, locsOf]; rfl
theorem locL_t (n : Nat) : ∀ xs : List V, locsOfL n (V.tL xs) = (locL xs n).map lc
 | [] => by simp only [V.tL, locsOfL]; rfl
 | x :: xs => by
  simp only [V.tL, locsOfL, loc_t n x, locL_t n xs]
  show _ = (kapp (locV x n) (locL xs n)).map lc
  rw [kapp_eq, List.map_append]
end
theorem cells_t (v : V) : v.t.cells = V.tL v.cells := by
 cases v <;> simp only [V.t, T.cells] <;> simp only [V.cells, celW, V.tL, V.t]
theorem tL_len (xs : List V) : (V.tL xs).length = xs.length := by rw [tL_map, List.length_map]
theorem tL_get (xs : List V) (i : Nat) : (V.tL xs)[i]? = xs[i]?.map V.t := by rw [tL_map, List.getElem?_map]
theorem tL_drop (xs : List V) (i : Nat) : (V.tL xs).drop i = V.tL (xs.drop i) := by rw [tL_map, tL_map, List.map_drop]
theorem tL_take (xs : List V) (i : Nat) : (V.tL xs).take i = V.tL (xs.take i) := by rw [tL_map, tL_map, List.map_take]
theorem tL_app (xs ys : List V) : V.tL (xs ++ ys) = V.tL xs ++ V.tL ys := by rw [tL_map, tL_map, tL_map, List.map_append]
theorem tL_set (xs : List V) (i : Nat) (v : V) : V.tL (xs.set i v) = (V.tL xs).set i v.t := by rw [tL_map, tL_map, List.map_set]
theorem tL_splice (cs : List V) (off : Nat) (ys : List V) : V.tL (ksplice cs off ys) = splice (V.tL cs) off (V.tL ys) := by
 simp only [ksplice, kapp_eq, ktake_eq, kdrop_eq, klen_eq, splice, tL_app, tL_take, tL_drop, tL_len, List.append_assoc]; rfl
theorem kfil_eq (x : Nat) : ∀ xs, kfil xs x = xs.filter fun y => !(y == x)
 | [] => rfl
 | y :: xs => by
  show (@Bool.rec (fun _ => List Nat) (y :: kfil xs x) (kfil xs x) (Nat.beq y x)) = _
  rw [br_if, kfil_eq x xs, List.filter_cons]
  by_cases h : y = x
  ·subst h; simp
  ·have : Nat.beq y x = false := by rw [nbeq_f]; exact h
   simp [this, h]
theorem filter_lc (x : Nat) (xs : List Nat) : (xs.map lc).filter (· != lc x) = (xs.filter fun y => !(y == x)).map lc := by
 induction xs with
 | nil => rfl
 | cons y ys ih =>
  by_cases h : y = x
  ·subst h; simp [ih]
  ·have : ¬ lc y = lc x := fun e => h (lc_inj e)
   simp [h, this, ih]
theorem kdd_t : ∀ ls : List Nat, dedup (ls.map lc) = (kdd ls).map lc
 | [] => rfl
 | x :: xs => by
  show lc x :: (dedup (xs.map lc)).filter (· != lc x) = (x :: kfil (kdd xs) x).map lc
  rw [kdd_t xs, filter_lc, kfil_eq]; rfl
theorem kpos_t (l : Nat) : ∀ ls : List Nat, posOf (ls.map lc) (lc l) = kpos ls l
 | [] => rfl
 | x :: xs => by
  have ih := kpos_t l xs
  show _ = (@Bool.rec (fun _ => Option Nat) (@Option.rec Nat (fun _ => Option Nat) none (fun j => some (Nat.succ j)) (kpos xs l)) (some 0) (Nat.beq x l))
  rw [br_if]
  simp only [nbeq]
  unfold posOf at ih ⊢
  rw [List.map_cons, List.findIdx?_cons, ih]
  by_cases h : x = l
  ·subst h; simp
  ·have : ¬ lc x = lc l := fun e => h (lc_inj e)
   simp only [beq_iff_eq, this, h, if_false]
   cases kpos xs l <;> rfl
section
variable {S : KS} {f : Nat → Option Nat} {f' : Loc → Option Loc} {n : Nat} {z : Loc → Bool}
theorem genIs_t (l g : Nat) : genIs S l g = true ↔ ∃ ro sz e xs, kget S l = some (.arr ro g sz e xs) := by
 unfold genIs
 cases kget S l with
 | none => simp
 | some o =>
  cases o with
  | arr ro g' sz e xs =>
   show Nat.beq g g' = true ↔ _
   rw [nbeq]
   constructor
   ·rintro rfl; exact ⟨_, _, _, _, rfl⟩
   ·rintro ⟨_, _, _, _, h⟩; cases h; rfl
  | _ => simp [isArr]
mutual
theorem rn_t (hf : ∀ l, f' (lc l) = (f l).map lc) (hz : ∀ l, z (lc l) = Nat.beq (Nat.div l 4294967296) n) : ∀ v : V, rename (abS S) f' z v.t = (rnV S f n v).t
 | .own l g off len => by
  simp only [V.t, rename, hf, hz, abS_lc]
  show _ = V.t (@Option.rec Nat (fun _ => V) .u (fun m => @Bool.rec (fun _ => V) (.own m g off len) (@Bool.rec (fun _ => V) .u (.own m 0 off len) (genIs S l g)) (Nat.beq (Nat.div l 4294967296) n)) (f l))
  cases f l with
  | none => simp only [Option.map_none, V.t]
  | some m =>
   simp only [Option.map_some, br_if]
   by_cases h1 : Nat.beq (Nat.div l 4294967296) n = true
   ·rw [if_pos h1, if_pos h1]
    by_cases h2 : genIs S l g = true
    ·rw [if_pos h2]
     obtain ⟨ro, sz, e, xs, h3⟩ := (genIs_t l g).1 h2
     simp only [h3, Option.map_some, KO.t, if_true, V.t]
    ·rw [if_neg h2]
     cases h3 : kget S l with
     | none => simp only [Option.map_none, V.t]
     | some o =>
      cases o with
      | arr ro g' sz e xs =>
       have : ¬ g = g' := by rintro rfl; exact h2 ((genIs_t l g).2 ⟨_, _, _, _, h3⟩)
       simp only [Option.map_some, KO.t, this, if_false, V.t]
      | _ => simp only [Option.map_some, KO.t, V.t]
   ·rw [if_neg h1, if_neg h1]; simp only [V.t]
 | .ptr l off => by
  simp only [V.t, rename, hf]
  show _ = V.t (@Option.rec Nat (fun _ => V) .u (fun m => .ptr m off) (f l))
  cases f l <;> simp only [Option.map_none, Option.map_some, V.t]
 | .aptr l g i off => by
  simp only [V.t, rename, hf, hz, abS_lc]
  show _ = V.t (@Option.rec Nat (fun _ => V) .u (fun m => @Bool.rec (fun _ => V) (.aptr m g i off) (@Bool.rec (fun _ => V) .u (.aptr m 0 i off) (genIs S l g)) (Nat.beq (Nat.div l 4294967296) n)) (f l))
  cases f l with
  | none => simp only [Option.map_none, V.t]
  | some m =>
   simp only [Option.map_some, br_if]
   by_cases h1 : Nat.beq (Nat.div l 4294967296) n = true
   ·rw [if_pos h1, if_pos h1]
    by_cases h2 : genIs S l g = true
    ·rw [if_pos h2]
     obtain ⟨ro, sz, e, xs, h3⟩ := (genIs_t l g).1 h2
     simp only [h3, Option.map_some, KO.t, if_true, V.t]
    ·rw [if_neg h2]
     cases h3 : kget S l with
     | none => simp only [Option.map_none, V.t]
     | some o =>
      cases o with
      | arr ro g' sz e xs =>
       have : ¬ g = g' := by rintro rfl; exact h2 ((genIs_t l g).2 ⟨_, _, _, _, h3⟩)
       simp only [Option.map_some, KO.t, this, if_false, V.t]
      | _ => simp only [Option.map_some, KO.t, V.t]
   ·rw [if_neg h1, if_neg h1]; simp only [V.t]
 | .clo h cs => by simp only [V.t, rename, rnL_t hf hz cs]; show _ = V.t (.clo h (rnL cs S f n)); simp only [V.t]
 | .agg cs => by simp only [V.t, rename, rnL_t hf hz cs]; show _ = V.t (.agg (rnL cs S f n)); simp only [V.t]
 | .tup cs => by simp only [V.t, rename, rnL_t hf hz cs]; show _ = V.t (.tup (rnL cs S f n)); simp only [V.t]
 | .u => by simp only [V.t, rename]; show _ = V.t .u; simp only [V.t]
 | .p c m => by simp only [V.t, rename]; show _ = V.t (.p c m); simp only [V.t]
 | .m c m => by simp only [V.t, rename]; show _ = V.t (.m c m); simp only [V.t]
 | .b q => by simp only [V.t, rename]; show _ = V.t (.b q); simp only [V.t]
 | .s l m => by simp only [V.t, rename]; show _ = V.t (.s l m); simp only [V.t]
 | .np => by simp only [V.t, rename]; show _ = V.t .np; simp only [V.t]
 | .ns => by simp only [V.t, rename]; show _ = V.t .ns; simp only [V.t]
 | .nf => by simp only [V.t, rename]; show _ = V.t .nf; simp only [V.t]
 | .ni => by simp only [V.t, rename]; show _ = V.t .ni; simp only [V.t]
 | .fn g => by simp only [V.t, rename]; show _ = V.t (.fn g); simp only [V.t]
 | .lst sz xs => by simp only [V.t, rename]; show _ = V.t (.lst sz xs); simp only [V.t]
 | .lptr sz xs i off => by simp only [V.t, rename]; show _ = V.t (.lptr sz xs i off); simp only [V.t]
theorem rnL_t (hf : ∀ l, f' (lc l) = (f l).map lc) (hz : ∀ l, z (lc l) = Nat.beq (Nat.div l 4294967296) n) : ∀ xs : List V, renameL (abS S) f' z (V.tL xs) = V.tL (rnL xs S f n)
 | [] => by simp only [V.tL, renameL]; rfl
 | x :: xs => by
  simp only [V.tL, renameL, rn_t hf hz x, rnL_t hf hz xs]
  show _ = V.tL (rnV S f n x :: rnL xs S f n)
  simp only [V.tL]
end
theorem rnO_t (hf : ∀ l, f' (lc l) = (f l).map lc) (hz : ∀ l, z (lc l) = Nat.beq (Nat.div l 4294967296) n) (o : KO) : renObj (abS S) f' z o.t = (rnO o S f n).t := by
 cases o with
 | box bt cs => simp only [KO.t, renObj, rnL_t hf hz cs]; rfl
 | arr ro g sz e xs => rfl
 | gone => rfl
end
theorem lv_beq (n l : Nat) : ((lc l).1 == n) = Nat.beq (Nat.div l 4294967296) n := by
 rw [nbeq_d, lc_fst]; rfl
theorem maskF_t (L : Nat) (kl : List Nat) (l : Nat) : maskF L kl (lc l) = (mkF L kl l).map lc := by
 unfold maskF mkF
 simp only [br_if, nbeq, kin_eq]
 show (if l / 4294967296 = L then if kl.contains (l % 4294967296) = true then some (lc l) else none else some (lc l)) = Option.map lc (if l / 4294967296 = L then if kl.contains (l % 4294967296) = true then some l else none else some l)
 split
 ·split <;> rfl
 ·rfl
theorem packF_t (n m key : Nat) (ls : List Nat) {k0 : Nat} (hk : key = m * 4294967296 + k0) (hs : k0 + ls.length < 4294967296) (l : Nat) : packF n (ls.map lc) m k0 (lc l) = (pkF n ls key l).map lc := by
 unfold packF pkF
 simp only [br_if, nbeq, kpos_t]
 show (if l / 4294967296 = n then (kpos ls l).map fun j => (m, k0 + j) else some (lc l)) = Option.map lc (if l / 4294967296 = n then _ else some l)
 split
 ·have hlt : ∀ j, kpos ls l = some j → j < ls.length := by
   intro j hj
   rw [← kpos_t, posOf] at hj
   have := (List.findIdx?_eq_some_iff_findIdx_eq.1 hj).1
   simpa using this
  cases h : kpos ls l with
  | none => rfl
  | some j =>
   have := hlt j h
   simp only [Option.map_some, Option.some.injEq]
   show _ = lc (key + j)
   rw [hk, Nat.add_assoc, lc_mk _ _ (by omega)]
 ·rfl
end Go.TM
