/- Expressions: the parser's place in the store; what it takes. -/
import Derived.Test.YtgmclgajlofljaaGreatDoorV8B
import Derived.Test.YtgmclgajlofljaaGreatDoorQ8JW
set_option linter.all false
namespace Go.TM.R8
open Go Go.TM Go.Proofs Go.TM.A8
attribute [-simp] Int.natCast_add Int.natCast_mul List.drop_one
def PX (x y z : T) (S : Store) : Store := upd S (1, 11) (.box 64 [x, y, z])
def PSt (s : List UInt8) (p : PS) (S : Store) : Store := PX (.sc (str s)) (.sc (.int .i64 p.a)) (.sc (.int .i64 (p.e : Int))) S
section
variable {x y z x' y' z' : T} {S S' : Store} {k : Nat}
theorem k11 (k : Nat) : k + 1 + 1 = k + 2 := rfl
theorem ne11 (k d : Nat) : ((k + 2, d) : Loc) ≠ (1, 11) := by intro h; injection h with h1 h2; omega
@[simp] theorem PX_at : PX x y z S (1, 11) = some (.box 64 [x, y, z]) := by unfold PX upd; rw [if_pos rfl]
@[simp] theorem PX_hi (d : Nat) : PX x y z S (k + 2, d) = S (k + 2, d) := by unfold PX upd; rw [if_neg (ne11 k d)]
@[simp] theorem PX_upd : upd (PX x y z S) (1, 11) (.box 64 [x', y', z']) = PX x' y' z' S := by unfold PX; rw [upd_upd]
@[simp] theorem PX_up (d : Nat) (o : Obj) : upd (PX x y z S) (k + 2, d) o = PX x y z (upd S (k + 2, d) o) := by
 funext l; unfold PX upd
 by_cases h : l = (k + 2, d)
 ·subst h; rw [if_pos rfl, if_neg (ne11 k d), if_pos rfl]
 ·rw [if_neg h, if_neg h]
@[simp] theorem PX_trunc : trunc (k + 1) (PX x y z S) = PX x y z (trunc (k + 1) S) := by unfold PX; rw [trunc_keep _ _ _ _ (by omega)]
@[simp] theorem PX_mask (kl : List Nat) (S0 : Store) : maskT (k + 2) kl S0 (PX x y z S) = PX x y z (maskT (k + 2) kl S0 S) := by unfold PX; rw [maskT_low _ _ _ _ _ (by omega)]
@[simp] theorem PX_lay : lay (k + 1) (PX x y z S) (PX x' y' z' S') = PX x y z (lay (k + 1) S S') := by
 funext l; unfold PX lay upd
 by_cases h : l = (1, 11)
 ·subst h
  rw [if_pos rfl, if_pos rfl, if_pos rfl, Nat.ble_eq_true_of_le (show 1 ≤ k + 1 by omega)]; rfl
 ·rw [if_neg h, if_neg h, if_neg h]
@[simp] theorem PX_ro (ls : List Loc) : setRo (PX x y z S) ls = PX x y z (setRo S ls) := by unfold PX; rw [setRo_box]
@[simp] theorem PX_lowO (Y : Store) : upd (lowO (k + 2) (PX x y z S) Y) (1, 11) (.box 64 [x', y', z']) = lowO (k + 2) (PX x' y' z' S) Y := by
 rw [← lowO_upd _ _ _ _ (by omega), PX_upd]
@[simp] theorem lowO_PX (A B : Store) : lowO (k + 2) A (PX x y z B) = lowO (k + 2) A B := by
 funext l; unfold lowO PX upd
 by_cases h : l.1 < k + 2
 ·rw [if_pos h, if_pos h]
 ·rw [if_neg h, if_neg h, if_neg (fun e => by rw [e] at h; exact h (by show 1 < k + 2; omega))]
@[simp] theorem PX_drop (d : Nat) (o : Obj) (Y : Store) : lowO (k + 2) (PX x y z (upd S (k + 2, d) o)) Y = lowO (k + 2) (PX x y z S) Y := by
 rw [← PX_up, lowO_drop _ _ _ _ _ (Nat.le_refl _)]
@[simp] theorem trunc_lowOk (A B : Store) : trunc (k + 1) (lowO (k + 2) A B) = trunc (k + 1) A := by
 funext l
 unfold trunc lowO
 split
 ·rw [if_pos (by omega)]
 ·rfl
@[simp] theorem lay_lowOk (A B Y : Store) : lay (k + 1) A (lowO (k + 2) B Y) = lowO (k + 2) A Y := by
 funext l
 unfold lay lowO
 by_cases hl : l.1 < k + 2
 ·rw [Nat.ble_eq_true_of_le (show l.1 ≤ k + 1 by omega), if_pos hl, if_pos hl]; rfl
 ·have : Nat.ble l.1 (k + 1) = false := by
   cases hb : Nat.ble l.1 (k + 1) with
   | false => rfl
   | true => exact absurd (Nat.le_of_ble_eq_true hb) (by omega)
  rw [this, if_neg hl, if_neg hl]; rfl
theorem lk_none (h : trunc (k + 1) S = S) (d : Nat) : S (k + 2, d) = none := by rw [← h]; unfold trunc; rw [if_neg (by show ¬ k + 2 ≤ k + 1; omega)]
theorem lk_trunc (h : trunc (k + 1) S = S) : trunc (k + 2) S = S := by rw [← h]; exact trunc_trunc' _ _ (by omega)
theorem lk_mask (h : trunc (k + 1) S = S) (kl : List Nat) (S0 : Store) : maskT (k + 2) kl S0 S = S := by rw [← h]; exact maskT_trunc _ _ _ (by omega)
theorem lk_ro (h : trunc (k + 1) S = S) (d : Nat) : setRo S [(k + 2, d)] = S := by
 funext l
 unfold setRo
 by_cases hl : l = (k + 2, d)
 ·subst hl; rw [lk_none h]
 ·split
  ·rename_i ro g sz e xs he
   have : ([(k + 2, d)] : List Loc).contains l = false := by simp [hl]
   rw [this, Bool.or_false]; exact he.symm
  ·rfl
end
@[simp] theorem beq_k1 (k : Nat) : (k == k + 1) = false := by simp
@[simp] theorem beq_k2 (k : Nat) : (k == k + 2) = false := by simp
attribute [irreducible] PX
theorem c_enter (s : List UInt8) (p : PS) (S : Store) (k : Nat) (hS : trunc (k + 1) S = S) (d : Nat) (hd : d ≤ 129) :
  callF E (k + 1) f_expr_parser_enter [.ptr (1, 11) 0, .sc (.int .i64 (d : Int))] (PSt s p S) = some (.sc (.bool (decide ((entF (129 - d) p).e = 0))), PSt s (entF (129 - d) p) S) := by
 (have hn : ∀ d, S (k + 2, d) = none := fun d => lk_none hS d); (have hm : ∀ kl S0, maskT (k + 2) kl S0 S = S := fun kl S0 => lk_mask hS kl S0); (have ht : trunc (k + 2) S = S := lk_trunc hS); (have hr : ∀ d, setRo S [(k + 2, d)] = S := fun d => lk_ro hS d)
 unfold entF PSt
 by_cases h1 : p.e = 0
 ·by_cases h2 : d = 129
  ·subst h2
   rw [if_pos ⟨h1, rfl⟩]
   simp only [h1]
   try simp only [lenN, Int.cast_ofNat_Int] at *
   (refine callF_light rfl pf_expr_parser_enter lf_expr_parser_enter (by simp [K_expr_parser_enter]) ?_; rw [evF_R, K_expr_parser_enter])
   simp (disch := omega) [*]
  ·rw [if_neg (by omega)]
   simp only [h1]
   have h3 : ¬ (128 < d) := by omega
   try simp only [lenN, Int.cast_ofNat_Int] at *
   (refine callF_light rfl pf_expr_parser_enter lf_expr_parser_enter (by simp [K_expr_parser_enter]) ?_; rw [evF_R, K_expr_parser_enter])
   simp (disch := omega) [*]
 ·rw [if_neg (fun h => h1 h.1)]
  try simp only [lenN, Int.cast_ofNat_Int] at *
  (refine callF_light rfl pf_expr_parser_enter lf_expr_parser_enter (by simp [K_expr_parser_enter]) ?_; rw [evF_R, K_expr_parser_enter])
  simp (disch := omega) [*]
end Go.TM.R8
namespace Go.TM.R8
open Go Go.TM Go.Proofs Go.TM.A8
attribute [-simp] Int.natCast_add Int.natCast_mul List.drop_one
theorem c_peek (s : List UInt8) (p : PS) (S : Store) (k : Nat) (hS : trunc (k + 1) S = S) :
  callF E (k + 1) f_expr_parser_peek [.ptr (1, 11) 0] (PSt s p S) = some ((pkF s p).t, PSt s p S) := by
 (have hn : ∀ d, S (k + 2, d) = none := fun d => lk_none hS d); (have hm : ∀ kl S0, maskT (k + 2) kl S0 S = S := fun kl S0 => lk_mask hS kl S0); (have ht : trunc (k + 2) S = S := lk_trunc hS); (have hr : ∀ d, setRo S [(k + 2, d)] = S := fun d => lk_ro hS d)
 unfold pkF PSt
 by_cases h1 : p.e = 0
 ·rw [if_pos h1]
  have h := c_NextI s p.a
  generalize nextI s p.a = r at *
  unfold R3.v at h
  by_cases h2 : r.e = 0
  ·rw [if_pos h2]
   simp only [h1, h2] at h ⊢
   clear h1 h2
   try simp only [lenN, Int.cast_ofNat_Int] at *
   (refine callF_light rfl pf_expr_parser_peek lf_expr_parser_peek (by simp [K_expr_parser_peek]) ?_; rw [evF_R, K_expr_parser_peek])
   simp (disch := omega) [Tk.t, Tk.cs, *]
  ·rw [if_neg h2]
   simp only [h1]
   clear h1
   try simp only [lenN, Int.cast_ofNat_Int] at *
   (refine callF_light rfl pf_expr_parser_peek lf_expr_parser_peek (by simp [K_expr_parser_peek]) ?_; rw [evF_R, K_expr_parser_peek])
   simp (disch := omega) [Tk.t, Tk.cs, zTk, gs_true_nil, *]
 ·rw [if_neg h1]
  try simp only [lenN, Int.cast_ofNat_Int] at *
  (refine callF_light rfl pf_expr_parser_peek lf_expr_parser_peek (by simp [K_expr_parser_peek]) ?_; rw [evF_R, K_expr_parser_peek])
  simp (disch := omega) [Tk.t, Tk.cs, zTk, gs_true_nil, *]
theorem c_next (s : List UInt8) (p : PS) (S : Store) (k : Nat) (hS : trunc (k + 1) S = S) :
  callF E (k + 1) f_expr_parser_next [.ptr (1, 11) 0] (PSt s p S) = some ((nxF s p).1.t, PSt s (nxF s p).2 S) := by
 (have hn : ∀ d, S (k + 2, d) = none := fun d => lk_none hS d); (have hm : ∀ kl S0, maskT (k + 2) kl S0 S = S := fun kl S0 => lk_mask hS kl S0); (have ht : trunc (k + 2) S = S := lk_trunc hS); (have hr : ∀ d, setRo S [(k + 2, d)] = S := fun d => lk_ro hS d)
 unfold nxF PSt
 by_cases h1 : p.e = 0
 ·rw [if_pos h1]
  have h := c_NextI s p.a
  generalize nextI s p.a = r at *
  unfold R3.v at h
  by_cases h2 : r.e = 8
  ·rw [if_pos h2]
   simp only [h1, h2] at h ⊢
   clear h1 h2
   try simp only [lenN, Int.cast_ofNat_Int] at *
   (refine callF_light rfl pf_expr_parser_next lf_expr_parser_next (by simp [K_expr_parser_next]) ?_; rw [evF_R, K_expr_parser_next])
   simp (disch := omega) [Tk.t, Tk.cs, *]
  ·rw [if_neg h2]
   simp only [h1]
   clear h1
   try simp only [lenN, Int.cast_ofNat_Int] at *
   (refine callF_light rfl pf_expr_parser_next lf_expr_parser_next (by simp [K_expr_parser_next]) ?_; rw [evF_R, K_expr_parser_next])
   simp (disch := omega) [Tk.t, Tk.cs, *]
 ·rw [if_neg h1]
  try simp only [lenN, Int.cast_ofNat_Int] at *
  (refine callF_light rfl pf_expr_parser_next lf_expr_parser_next (by simp [K_expr_parser_next]) ?_; rw [evF_R, K_expr_parser_next])
  simp (disch := omega) [Tk.t, Tk.cs, zTk, gs_true_nil, *]
theorem c_take (s x : List UInt8) (p : PS) (S : Store) (k : Nat) (hS : trunc (k + 1) S = S) :
  callF E (k + 1) f_expr_parser_take [.ptr (1, 11) 0, .sc (str x)] (PSt s p S) = some (.tup [], PSt s (tkF s x p) S) := by
 (have hn : ∀ d, S (k + 2, d) = none := fun d => lk_none hS d); (have hm : ∀ kl S0, maskT (k + 2) kl S0 S = S := fun kl S0 => lk_mask hS kl S0); (have ht : trunc (k + 2) S = S := lk_trunc hS); (have hr : ∀ d, setRo S [(k + 2, d)] = S := fun d => lk_ro hS d)
 unfold tkF PSt
 by_cases h1 : p.e = 0
 ·rw [if_pos h1]
  have h := c_Take s p.a x
  generalize takeR (mustR (nextI s p.a)) x = r at *
  simp only [h1]
  clear h1
  try simp only [lenN, Int.cast_ofNat_Int] at *
  (refine callF_light rfl pf_expr_parser_take lf_expr_parser_take (by simp [K_expr_parser_take]) ?_; rw [evF_R, K_expr_parser_take])
  simp (disch := omega) [*]
 ·rw [if_neg h1]
  try simp only [lenN, Int.cast_ofNat_Int] at *
  (refine callF_light rfl pf_expr_parser_take lf_expr_parser_take (by simp [K_expr_parser_take]) ?_; rw [evF_R, K_expr_parser_take])
  simp (disch := omega) [*]
def mayF (s x : List UInt8) (p : PS) : PS := if myB s x p = true then tkF s x p else p
theorem c_may (s x : List UInt8) (p : PS) (S : Store) (k : Nat) (hS : trunc (k + 1) S = S) :
  callF E (k + 1) f_expr_parser_may [.ptr (1, 11) 0, .sc (str x)] (PSt s p S) = some (.sc (.bool (myB s x p)), PSt s (mayF s x p) S) := by
 (have hn : ∀ d, S (k + 2, d) = none := fun d => lk_none hS d); (have hm : ∀ kl S0, maskT (k + 2) kl S0 S = S := fun kl S0 => lk_mask hS kl S0); (have ht : trunc (k + 2) S = S := lk_trunc hS); (have hr : ∀ d, setRo S [(k + 2, d)] = S := fun d => lk_ro hS d)
 have hT := c_take s x p S k hS
 unfold mayF PSt at *
 by_cases h1 : p.e = 0
 ·have h := c_Peek s p.a x
  have e : myB s x p = decide ((takeR (mustR (nextI s p.a)) x).2 = 0) := by unfold myB; rw [decide_eq_true h1, Bool.true_and]
  rw [e]
  generalize tkF s x p = q at *
  generalize decide ((takeR (mustR (nextI s p.a)) x).2 = 0) = b at *
  clear e
  cases b
  ·rw [if_neg (by decide)]
   simp only [h1] at hT ⊢
   clear h1
   try simp only [lenN, Int.cast_ofNat_Int] at *
   (refine callF_light rfl pf_expr_parser_may lf_expr_parser_may (by simp [K_expr_parser_may]) ?_; rw [evF_R, K_expr_parser_may])
   simp (disch := omega) [*]
  ·rw [if_pos rfl]
   simp only [h1] at hT ⊢
   clear h1
   try simp only [lenN, Int.cast_ofNat_Int] at *
   (refine callF_light rfl pf_expr_parser_may lf_expr_parser_may (by simp [K_expr_parser_may]) ?_; rw [evF_R, K_expr_parser_may])
   simp (disch := omega) [*]
 ·have e : myB s x p = false := by unfold myB; rw [decide_eq_false h1, Bool.false_and]
  rw [e, if_neg (by decide)]
  clear hT e
  try simp only [lenN, Int.cast_ofNat_Int] at *
  (refine callF_light rfl pf_expr_parser_may lf_expr_parser_may (by simp [K_expr_parser_may]) ?_; rw [evF_R, K_expr_parser_may])
  simp (disch := omega) [*]
end Go.TM.R8
namespace Go.TM.R8
open Go Go.TM Go.Proofs Go.TM.A8
attribute [-simp] Int.natCast_add Int.natCast_mul List.drop_one
def XC (s : List UInt8) (f : FuncId) (d : Nat) (fx : PF) : Prop := ∀ (p : PS) (S : Store) (k : Nat), trunc (k + 1) S = S →
 callF E (k + 1) f [.ptr (1, 11) 0, .sc (.int .i64 (d : Int))] (PSt s p S) = some ((fx p).1.t, PSt s (fx p).2 S)
abbrev RW (g : Nat) (l : List Ex') : Obj := .arr false g 8 28 (ml Ex'.t l)
theorem rest_len (s : List UInt8) (fx : PF) : ∀ (n : Nat) (l : List Ex') (p : PS), l.length ≤ (restF s fx n l p).1.length ∧ (restF s fx n l p).1.length ≤ l.length + n
 | 0, l, p => ⟨Nat.le_refl _, Nat.le_refl _⟩
 | n + 1, l, p => by
  rw [restF]
  split
  ·have := rest_len s fx n (l ++ [(fx (tkF s [44] p)).1]) (fx (tkF s [44] p)).2
   simp only [List.length_append, List.length_cons, List.length_nil] at this
   omega
  ·simp only []; omega
theorem l_rest (s : List UInt8) (d : Nat) (fx : PF) (hx : XC s f_expr_parser_expr d fx) (hmo : Mo s fx) (S : Store) (k d0 : Nat) (hS : trunc (k + 2) S = S) :
  ∀ (n : Nat) (l : List Ex') (p : PS) (g : Nat), mu s p < n → l.length + n < 1000000 →
  Lp E (k + 3) 16 K_expr_parser_rest_h0 K_expr_parser_rest_b0.c ⟨[(0, .ptr (1, 11) 0), (1, .own (k + 2, d0) g 0 l.length), (2, .sc (.int .i64 (d : Int)))], PSt s p (upd S (k + 2, d0) (RW g l))⟩ =
   some (.exit 0, ⟨[(1, .own (k + 2, d0) (g + ((restF s fx n l p).1.length - l.length)) 0 (restF s fx n l p).1.length)], PSt s (restF s fx n l p).2 (upd S (k + 2, d0) (RW (g + ((restF s fx n l p).1.length - l.length)) (restF s fx n l p).1))⟩)
 | 0, l, p, g, hmu, hl => absurd hmu (Nat.not_lt_zero _)
 | n + 1, l, p, g, hmu, hl => by
  (have hn : ∀ d, S (k + 3, d) = none := fun d => lk_none (k := k + 1) hS d); (have hm : ∀ kl S0, maskT (k + 3) kl S0 S = S := fun kl S0 => lk_mask (k := k + 1) hS kl S0); (have ht : trunc (k + 3) S = S := lk_trunc (k := k + 1) hS); (have hr : ∀ d, setRo S [(k + 3, d)] = S := fun d => lk_ro (k := k + 1) hS d)
  have hS2 : trunc (k + 2) (upd S (k + 2, d0) (RW g l)) = upd S (k + 2, d0) (RW g l) := by rw [trunc_keep _ _ _ _ (Nat.le_refl _), hS]
  have hc := c_may s [44] p _ (k + 1) hS2
  rw [restF]
  unfold mayF at hc
  by_cases h : myB s [44] p = true
  ·have h1 := mu_tk h
   have h2 := hmo (tkF s [44] p)
   rw [h, if_pos rfl] at hc
   rw [if_pos h]
   have he := hx (tkF s [44] p) _ (k + 1) hS2
   have ih := l_rest s d fx hx hmo S k d0 hS n (l ++ [(fx (tkF s [44] p)).1]) (fx (tkF s [44] p)).2 (g + 1) (by omega) (by simp; omega)
   have h5 := rest_len s fx n (l ++ [(fx (tkF s [44] p)).1]) (fx (tkF s [44] p)).2
   generalize tkF s [44] p = q at *
   generalize fx q = r at *
   generalize restF s fx n (l ++ [r.1]) r.2 = w at *
   have e : g + 1 + (w.1.length - (l ++ [r.1]).length) = g + (w.1.length - l.length) := by simp only [List.length_append, List.length_cons, List.length_nil] at h5 ⊢; omega
   rw [e] at ih
   generalize g + (w.1.length - l.length) = g2 at *
   have h6 : l.length ≤ 999999999 := by omega
   clear h1 h2 hmu h h5 e hx hmo
   unfold PSt at *
   try simp only [lenN, Int.cast_ofNat_Int] at *
   (rw [Lp_eq]; rw (occs := .pos [1]) [K_expr_parser_rest_b0])
   simp (disch := omega) [*]
  ·rw [if_neg h]
   have h : myB s [44] p = false := by simpa using h
   rw [h, if_neg (by decide)] at hc
   simp only [Nat.sub_self, Nat.add_zero]
   clear hx hmo hmu h
   unfold PSt at *
   try simp only [lenN, Int.cast_ofNat_Int] at *
   (rw [Lp_eq]; rw (occs := .pos [1]) [K_expr_parser_rest_b0])
   simp (disch := omega) [*]
theorem c_rest (s : List UInt8) (d : Nat) (fx : PF) (hx : XC s f_expr_parser_expr d fx) (hmo : Mo s fx) (l : List Ex') (p : PS) (g : Nat) (S : Store) (k d0 : Nat) (hS : trunc (k + 2) S = S) (hl : l.length + fuelR s < 1000000) :
  callF E (k + 2) f_expr_parser_rest [.ptr (1, 11) 0, .own (k + 2, d0) g 0 l.length, .sc (.int .i64 (d : Int))] (PSt s p (upd S (k + 2, d0) (RW g l))) =
   some (.own (k + 2, d0) (g + ((restF s fx (fuelR s) l p).1.length - l.length)) 0 (restF s fx (fuelR s) l p).1.length, PSt s (restF s fx (fuelR s) l p).2 (upd S (k + 2, d0) (RW (g + ((restF s fx (fuelR s) l p).1.length - l.length)) (restF s fx (fuelR s) l p).1))) := by
 (have hn : ∀ d, S (k + 3, d) = none := fun d => lk_none (k := k + 1) hS d); (have hm : ∀ kl S0, maskT (k + 3) kl S0 S = S := fun kl S0 => lk_mask (k := k + 1) hS kl S0); (have ht : trunc (k + 3) S = S := lk_trunc (k := k + 1) hS); (have hr : ∀ d, setRo S [(k + 3, d)] = S := fun d => lk_ro (k := k + 1) hS d)
 have h := l_rest s d fx hx hmo S k d0 hS (fuelR s) l p g (mu_fuel s p) hl
 generalize restF s fx (fuelR s) l p = w at *
 generalize g + (w.1.length - l.length) = g2 at *
 clear hx hmo
 unfold PSt at *
 try simp only [lenN, Int.cast_ofNat_Int] at *
 (refine callF_light rfl pf_expr_parser_rest lf_expr_parser_rest (by simp [K_expr_parser_rest]) ?_; rw [evF_R, K_expr_parser_rest])
 simp (disch := omega) [*]
end Go.TM.R8
namespace Go.TM.R8
open Go Go.TM Go.Proofs Go.TM.A8
attribute [-simp] Int.natCast_add Int.natCast_mul List.drop_one
@[simp] theorem t_snapR (x : Ex') (S : Store) : snapR S x.t = some (x.t, []) := by
 have h := x.t_snap S
 cases x
 rw [Ex'.t_mk] at *
 exact h
theorem mkE_t (o : Nat) (nm : List UInt8) (l : List Ex') : (mkE o nm l).t = .agg [.sc (.int .u8 (o : Int)), .sc (str nm), .sc (.slice none 0 0), .sc (.bool false), .lst 8 (ml Ex'.t l), .sc (.int .i64 0), .sc (.int .i64 0), .sc (.bool false)] := by
 rw [mkE, Ex'.t_mk, gs_false, ul_nil, gs_true_nil]
theorem refE_t (o : Nat) (nm : List UInt8) : (refE o nm).t = .agg [.sc (.int .u8 (o : Int)), .sc (str nm), .sc (.slice none 0 0), .sc (.bool false), .sc (.slice none 0 0), .sc (.int .i64 0), .sc (.int .i64 0), .sc (.bool false)] := by
 rw [refE, Ex'.t_mk, ul_nil, gs_true_nil, show ml Ex'.t [] = [] from rfl, gs_true_nil]
theorem zE_t : zE.t = .agg [.sc (.int .u8 0), .sc (str []), .sc (.slice none 0 0), .sc (.bool false), .sc (.slice none 0 0), .sc (.int .i64 0), .sc (.int .i64 0), .sc (.bool false)] := by
 rw [zE, Ex'.t_mk, ul_nil, gs_true_nil, show ml Ex'.t [] = [] from rfl, gs_true_nil]; rfl
theorem litE_t (b : Bool) (l : List Nat) (sg : Bool) : (litE b l sg).t = .agg [.sc (.int .u8 1), .sc (str []), gs b 1 (ul l), .sc (.bool sg), .sc (.slice none 0 0), .sc (.int .i64 0), .sc (.int .i64 0), .sc (.bool false)] := by
 rw [litE, Ex'.t_mk, show ml Ex'.t [] = [] from rfl, gs_true_nil]; rfl
theorem trunc_k2 (k d : Nat) (o : Obj) (S : Store) : trunc (k + 2) (upd S (k + 2, d) o) = upd (trunc (k + 2) S) (k + 2, d) o := trunc_keep _ _ _ _ (Nat.le_refl _)
theorem upd_comm (S : Store) (k d e : Nat) (a b : Obj) (h : d ≠ e) : upd (upd S (k, d) a) (k, e) b = upd (upd S (k, e) b) (k, d) a := by
 funext l; unfold upd
 by_cases h1 : l = (k, d)
 ·subst h1
  rw [if_neg (by intro e2; injection e2 with _ h2; exact h h2), if_pos rfl, if_pos rfl]
 ·rw [if_neg h1, if_neg h1]
theorem ml1 (x : Ex') : ml Ex'.t [x] = [x.t] := rfl
theorem ml2 (x y : Ex') : ml Ex'.t [x, y] = [x.t, y.t] := rfl
theorem c_braces (s : List UInt8) (d : Nat) (fx : PF) (hx : XC s f_expr_parser_expr d fx) (hmo : Mo s fx) (hs : s.length ≤ 65536) : XC s f_expr_parser_braces d (braF s fx) := by
 intro p S k hS
 (have hn : ∀ d, S (k + 2, d) = none := fun d => lk_none hS d); (have hm : ∀ kl S0, maskT (k + 2) kl S0 S = S := fun kl S0 => lk_mask hS kl S0); (have ht : trunc (k + 2) S = S := lk_trunc hS); (have hr : ∀ d, setRo S [(k + 2, d)] = S := fun d => lk_ro hS d)
 unfold braF
 have h1 := hx p S k hS
 generalize fx p = r at *
 unfold bra
 have hm1 := c_may s [123] r.2 S k hS
 unfold mayF at hm1
 by_cases hb : myB s [123] r.2 = true
 ·rw [if_pos hb]
  rw [hb, if_pos rfl] at hm1
  generalize tkF s [123] r.2 = q at *
  have h2 := hx q S k hS
  generalize fx q = r2 at *
  unfold bra1 rsF
  have hrs := fun (S' : Store) (o : Obj) (hS' : trunc (k + 2) S' = S') => c_rest s d fx hx hmo [r.1, r2.1] r2.2 1 (upd S' (k + 2, 19) o) k 9 (by rw [trunc_k2, hS']) (by unfold fuelR; simp; omega)
  have hlen := rest_len s fx (fuelR s) [r.1, r2.1] r2.2
  generalize restF s fx (fuelR s) [r.1, r2.1] r2.2 = w at *
  simp only [RW, ml2, List.length_cons, List.length_nil, Nat.zero_add, Nat.reduceAdd, upd_comm _ _ 19 9 _ _ (by decide)] at hrs hlen
  have ht1 := c_take s [125] w.2 S k hS
  generalize tkF s [125] w.2 = q1 at *
  have ht2 := c_take s [125] q1 S k hS
  generalize tkF s [125] q1 = q2 at *
  rw [mkE_t]
  have hl2 : w.1.length ≤ 999999999 := by have := hlen.2; unfold fuelR at this; omega
  clear hx hmo hb hlen
  unfold PSt at *
  try simp only [lenN, Int.cast_ofNat_Int] at *
  (refine callF_light rfl pf_expr_parser_braces lf_expr_parser_braces (by simp [K_expr_parser_braces]) ?_; rw [evF_R, K_expr_parser_braces]; simp only [k11])
  simp (disch := first | omega | (simp only [trunc_k2, *]; done)) [*]
 ·rw [if_neg hb]
  have hb2 : myB s [123] r.2 = false := by simpa using hb
  rw [hb2, if_neg (by decide)] at hm1
  unfold bra2 rsF
  have hrs := fun (S' : Store) (hS' : trunc (k + 2) S' = S') => c_rest s d fx hx hmo [r.1] r.2 0 S' k 9 hS' (by unfold fuelR; simp; omega)
  have hlen := rest_len s fx (fuelR s) [r.1] r.2
  generalize restF s fx (fuelR s) [r.1] r.2 = w at *
  simp only [RW, ml1, List.length_cons, List.length_nil, Nat.zero_add] at hrs hlen
  have ht1 := c_take s [125] w.2 S k hS
  generalize tkF s [125] w.2 = q1 at *
  rw [mkE_t]
  have hl2 : w.1.length ≤ 999999999 := by have := hlen.2; unfold fuelR at this; omega
  clear hx hmo hb hb2 hlen
  unfold PSt at *
  try simp only [lenN, Int.cast_ofNat_Int] at *
  (refine callF_light rfl pf_expr_parser_braces lf_expr_parser_braces (by simp [K_expr_parser_braces]) ?_; rw [evF_R, K_expr_parser_braces]; simp only [k11])
  simp (disch := first | omega | (simp only [trunc_k2, *]; done)) [*]
end Go.TM.R8
