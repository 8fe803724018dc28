/- Expressions: sizes. -/
import Derived.Test.YtgmclgajlofljaaGreatDoorR8P
import Derived.Test.YtgmclgajlofljaaGreatDoorTmEx
set_option linter.all false
namespace Go.TM.R8
open Go Go.TM Go.Proofs Go.TM.A8
attribute [-simp] Int.natCast_add Int.natCast_mul List.drop_one
mutual
def size : Ex' → Nat × Nat
 | .mk _ _ _ _ _ _ args _ _ _ => ((sizeL args).1 + 1, (sizeL args).2 + 1)
def sizeL : List Ex' → Nat × Nat
 | [] => (0, 0)
 | x :: xs => ((size x).1 + (sizeL xs).1, max (size x).2 (sizeL xs).2)
end
def szF (xs : List Ex') (n d i : Nat) : Nat × Nat := if i < xs.length then szF xs (n + (size (gx xs i)).1) (max d (size (gx xs i)).2) (i + 1) else (n, d)
 termination_by xs.length - i
theorem szF_ge (xs : List Ex') (n d i : Nat) : n ≤ (szF xs n d i).1 := by
 fun_induction szF xs n d i <;> omega
theorem szF_eq (xs : List Ex') (n d i : Nat) : szF xs n d i = (n + (sizeL (xs.drop i)).1, max d (sizeL (xs.drop i)).2) := by
 fun_induction szF xs n d i with
 | case1 n d i h ih =>
  rw [ih, List.drop_eq_getElem_cons h]
  have : gx xs i = xs[i] := by simp [gx, h]
  simp only [sizeL, this, Prod.mk.injEq]
  omega
 | case2 n d i h => rw [List.drop_eq_nil_of_le (by omega)]; simp [sizeL]
theorem szF_zero (xs : List Ex') : szF xs 0 0 0 = sizeL xs := by rw [szF_eq]; simp
theorem size_eq (x : Ex') : size x = ((sizeL x.args).1 + 1, (sizeL x.args).2 + 1) := by cases x; rw [size]; rfl
theorem size_pos (x : Ex') : 1 ≤ (size x).1 := by rw [size_eq]; simp
theorem sizeL_len : ∀ xs : List Ex', xs.length ≤ (sizeL xs).1
 | [] => by simp [sizeL]
 | x :: xs => by have := sizeL_len xs; have := size_pos x; simp only [sizeL, List.length_cons]; omega
theorem sizeL_mem : ∀ (xs : List Ex') (x : Ex'), x ∈ xs → (size x).1 ≤ (sizeL xs).1 ∧ (size x).2 ≤ (sizeL xs).2
 | [], x, h => by cases h
 | y :: xs, x, h => by
  simp only [sizeL]
  rcases List.mem_cons.1 h with rfl | h
  ·omega
  ·have := sizeL_mem xs x h; omega
theorem depth_le : ∀ x : Ex', (size x).2 ≤ (size x).1 := by
 refine Ex'.ind fun op name bn bits vs an args sig width sg ih => ?_
 have : ∀ xs : List Ex', (∀ x ∈ xs, (size x).2 ≤ (size x).1) → (sizeL xs).2 ≤ (sizeL xs).1 := by
  intro xs
  induction xs with
  | nil => intro _; simp [sizeL]
  | cons x xs h => intro hh; have h1 := h fun y hy => hh y (by simp [hy]); have h2 := hh x (by simp); simp only [sizeL]; omega
 have := this args ih
 simp only [size]; omega
theorem l_size (x : Ex') (n d i : Nat) (ha : x.args.length < 2 ^ 62) (hn : (szF x.args n d i).1 < 2 ^ 62)
  (ih : ∀ i, i < x.args.length → callF E 0 f_expr_Size [(gx x.args i).t] emp = some (.tup [.sc (.int .i64 (size (gx x.args i)).1), .sc (.int .i64 (size (gx x.args i)).2)], emp)) :
  Lp E 1 31 K_expr_Size_h0 K_expr_Size_b0.c ⟨[(2, .sc (.int .i64 n)), (3, .sc (.int .i64 d)), (9, gs x.an 8 (ml Ex'.t x.args)), (10, .sc (.int .i64 x.args.length)), (11, .sc (.int .i64 i))],
   upd emp (1, 1) (.box y_api_Expr x.t.cells)⟩ =
  some (.exit 0, ⟨[(2, .sc (.int .i64 (szF x.args n d i).1)), (3, .sc (.int .i64 (szF x.args n d i).2))], upd emp (1, 1) (.box y_api_Expr x.t.cells)⟩) := by
 fun_induction szF x.args n d i
 case case1 n d i h ih1 =>
  have := szF_ge x.args (n + (size (gx x.args i)).1) (max d (size (gx x.args i)).2) (i + 1)
  (rw [Lp_eq]; rw (occs := .pos [1]) [K_expr_Size_b0])
  simp (disch := omega) [*]
 case case2 n d i h =>
  (rw [Lp_eq]; rw (occs := .pos [1]) [K_expr_Size_b0])
  simp (disch := omega) [*]
@[simp] theorem c_size (x : Ex') (hx : (size x).1 < 2 ^ 61) : callF E 0 f_expr_Size [x.t] emp = some (.tup [.sc (.int .i64 (size x).1), .sc (.int .i64 (size x).2)], emp) := by
 revert hx
 refine Ex'.ind2 (P := fun x => (size x).1 < 2 ^ 61 → callF E 0 f_expr_Size [x.t] emp = some (.tup [.sc (.int .i64 (size x).1), .sc (.int .i64 (size x).2)], emp)) (fun y ih hx => ?_) x
 have h1 := size_eq y
 have h2 := sizeL_len y.args
 have h3 := depth_le y
 rw [h1] at h3 hx ⊢
 have hl := l_size y 0 0 0 (by simp only [] at hx; omega) (by rw [szF_zero]; simp only [] at hx; omega) (fun i hi => ih i hi (by have := (sizeL_mem _ _ (Ex'.gx_mem y.args i hi)).1; simp only [] at hx; omega))
 rw [szF_zero] at hl
 simp only [] at h3 hx
 clear ih h1
 try simp only [lenN, Int.cast_ofNat_Int] at *
 (refine callF_light rfl pf_expr_Size lf_expr_Size (by simp [K_expr_Size]) ?_; rw [evF_R, K_expr_Size])
 simp (disch := omega) [*]
theorem l_rsize (x : Ex') (n d i : Nat) (ha : x.args.length < 2 ^ 62) (hn : (szF x.args n d i).1 < 2 ^ 62)
  (ih : ∀ i, i < x.args.length → callF E 0 f_ref08_Size [(gx x.args i).t] emp = some (.tup [.sc (.int .i64 (size (gx x.args i)).1), .sc (.int .i64 (size (gx x.args i)).2)], emp)) :
  Lp E 1 34 K_ref08_Size_h0 K_ref08_Size_b0.c ⟨[(1, .ptr (1, 1) 0), (4, .sc (.int .i64 n)), (5, .sc (.int .i64 d)), (6, .sc (.int .i64 i))], upd emp (1, 1) (.box y_api_Expr x.t.cells)⟩ =
  some (.exit 0, ⟨[(4, .sc (.int .i64 (szF x.args n d i).1)), (5, .sc (.int .i64 (szF x.args n d i).2))], upd emp (1, 1) (.box y_api_Expr x.t.cells)⟩) := by
 fun_induction szF x.args n d i
 case case1 n d i h ih1 =>
  have := szF_ge x.args (n + (size (gx x.args i)).1) (max d (size (gx x.args i)).2) (i + 1)
  (rw [Lp_eq]; rw (occs := .pos [1]) [K_ref08_Size_b0])
  simp (disch := omega) [*]
 case case2 n d i h =>
  (rw [Lp_eq]; rw (occs := .pos [1]) [K_ref08_Size_b0])
  simp (disch := omega) [*]
@[simp] theorem c_rsize (x : Ex') (hx : (size x).1 < 2 ^ 61) : callF E 0 f_ref08_Size [x.t] emp = some (.tup [.sc (.int .i64 (size x).1), .sc (.int .i64 (size x).2)], emp) := by
 revert hx
 refine Ex'.ind2 (P := fun x => (size x).1 < 2 ^ 61 → callF E 0 f_ref08_Size [x.t] emp = some (.tup [.sc (.int .i64 (size x).1), .sc (.int .i64 (size x).2)], emp)) (fun y ih hx => ?_) x
 have h1 := size_eq y
 have h2 := sizeL_len y.args
 have h3 := depth_le y
 have hs : szF y.args 1 0 0 = ((sizeL y.args).1 + 1, (sizeL y.args).2) := by rw [szF_eq]; simp; omega
 rw [h1] at h3 hx ⊢
 have hl := l_rsize y 1 0 0 (by simp only [] at hx; omega) (by rw [hs]; simp only [] at hx ⊢; omega) (fun i hi => ih i hi (by have := (sizeL_mem _ _ (Ex'.gx_mem y.args i hi)).1; simp only [] at hx; omega))
 rw [hs] at hl
 simp only [] at h3 hx
 clear ih h1 hs
 try simp only [lenN, Int.cast_ofNat_Int] at *
 (refine callF_light rfl pf_ref08_Size lf_ref08_Size (by simp [K_ref08_Size]) ?_; rw [evF_R, K_ref08_Size])
 simp (disch := omega) [*]
mutual
def wide : Ex' → Bool
 | .mk _ name _ bits _ _ args _ _ _ => decide (200 < name.length) || decide (300 < bits.length) || wideL args
def wideL : List Ex' → Bool
 | [] => false
 | x :: xs => wide x || wideL xs
end
def wdF (xs : List Ex') (i : Nat) : Bool := if i < xs.length then (if wide (gx xs i) = true then true else wdF xs (i + 1)) else false
 termination_by xs.length - i
theorem wdF_eq (xs : List Ex') (i : Nat) : wdF xs i = wideL (xs.drop i) := by
 fun_induction wdF xs i with
 | case1 i h h2 =>
  rw [List.drop_eq_getElem_cons h]; simp only [wideL]; have : gx xs i = xs[i] := by simp [gx, h]
  rw [← this, h2]; rfl
 | case2 i h h2 ih =>
  rw [List.drop_eq_getElem_cons h, ih]; simp only [wideL]; have : gx xs i = xs[i] := by simp [gx, h]
  rw [← this]; simp [h2]
 | case3 i h => rw [List.drop_eq_nil_of_le (by omega)]; rfl
theorem wide_eq (x : Ex') : wide x = (decide (200 < x.name.length) || decide (300 < x.bits.length) || wdF x.args 0) := by rw [wdF_eq]; cases x; rw [wide]; rfl
def wdX (xs : List Ex') (i : Nat) (S : Store) : Ex × St := if i < xs.length then (if wide (gx xs i) = true then (.ret, ⟨[(2, .sc (.bool true))], emp⟩) else wdX xs (i + 1) S) else (.exit 0, ⟨[], S⟩)
 termination_by xs.length - i
theorem wdX_eq (xs : List Ex') (i : Nat) (S : Store) : wdX xs i S = if wdF xs i = true then (.ret, ⟨[(2, .sc (.bool true))], emp⟩) else (.exit 0, ⟨[], S⟩) := by
 fun_induction wdX xs i S with
 | case1 i h h2 => rw [wdF]; simp [h, h2]
 | case2 i h h2 ih =>
  rw [ih]; conv => rhs; rw [wdF]
  simp [h, h2]
 | case3 i h => rw [wdF]; simp [h]
theorem l_wide (x : Ex') (i : Nat) (ha : x.args.length < 2 ^ 62)
  (ih : ∀ i, i < x.args.length → callF E 0 f_law08_wide [(gx x.args i).t] emp = some (.sc (.bool (wide (gx x.args i))), emp)) :
  Lp E 1 28 K_law08_wide_h0 K_law08_wide_b0.c ⟨[(1, .ptr (1, 1) 0), (3, .sc (.int .i64 i))], upd emp (1, 1) (.box y_api_Expr x.t.cells)⟩ =
  some (wdX x.args i (upd emp (1, 1) (.box y_api_Expr x.t.cells))) := by
 fun_induction wdX x.args i (upd emp (1, 1) (.box y_api_Expr x.t.cells)) <;> (rw [Lp_eq]; rw (occs := .pos [1]) [K_law08_wide_b0])
 all_goals simp (disch := omega) [*]
@[simp] theorem c_wide (x : Ex') (hx : (size x).1 < 2 ^ 61) : callF E 0 f_law08_wide [x.t] emp = some (.sc (.bool (wide x)), emp) := by
 revert hx
 refine Ex'.ind2 (P := fun x => (size x).1 < 2 ^ 61 → callF E 0 f_law08_wide [x.t] emp = some (.sc (.bool (wide x)), emp)) (fun y ih hx => ?_) x
 have h1 := size_eq y
 have h2 := sizeL_len y.args
 rw [h1] at hx
 simp only [] at hx
 have hl := l_wide y 0 (by omega) (fun i hi => ih i hi (by have := (sizeL_mem _ _ (Ex'.gx_mem y.args i hi)).1; omega))
 rw [wdX_eq] at hl
 rw [wide_eq]
 clear ih h1
 try simp only [lenN, Int.cast_ofNat_Int] at *
 (refine callF_light rfl pf_law08_wide lf_law08_wide (by simp [K_law08_wide]) ?_; rw [evF_R, K_law08_wide])
 (try simp (disch := omega) [*]) <;> repeat' ((first | rw [RC_d] | rw [RG_d] | rw [RG_e] | rw [RC_b] | rw [RG_x] | rw [RG_y] | skip); split <;> (try (exfalso; omega)) <;> try simp (disch := omega) [*])
end Go.TM.R8
namespace Go.TM.R8
open Go Go.TM Go.Proofs Go.TM.A8
attribute [-simp] Int.natCast_add Int.natCast_mul List.drop_one
def named (o : Nat) : Bool := decide (o = 2) || decide (o = 3) || decide (o = 4) || decide (o = 5) || decide (o = 8)
@[simp] theorem c_named (o : Nat) : callF E 0 f_expr_named [.sc (.int .u8 o)] emp = some (.sc (.bool (named o)), emp) := by
 (refine callF_light rfl pf_expr_named lf_expr_named (by simp [K_expr_named]) ?_; rw [evF_R, K_expr_named])
 (try simp (disch := omega) [named, *]) <;> repeat' ((first | rw [RC_d] | rw [RG_d] | rw [RG_e] | rw [RC_b] | rw [RG_x] | rw [RG_y] | skip); split <;> (try (exfalso; omega)) <;> try simp (disch := omega) [named, *])
def arity (o n : Nat) : Bool :=
 if o = 1 ∨ o = 2 then decide (n = 0) else if o = 3 then decide (n = 1) || decide (n = 2) else if o = 4 ∨ o = 5 then decide (n = 2) else if o = 6 ∨ o = 8 then decide (0 < n)
 else if o = 7 then decide (1 < n) else if o = 9 then decide (n < 2) else if o = 10 then decide (n = 3) else if o < 21 then decide (n = 1) else decide (n = 2)
set_option maxHeartbeats 1000000 in
@[simp] theorem c_arity (x : Ex') (h : x.args.length < 2 ^ 62) : callF E 0 f_expr_arity [x.t] emp = some (.sc (.bool (arity x.op x.args.length)), emp) := by
 (refine callF_light rfl pf_expr_arity lf_expr_arity (by simp [K_expr_arity]) ?_; rw [evF_R, K_expr_arity])
 (try simp (disch := omega) [arity, *]) <;> repeat' ((first | rw [RC_d] | rw [RG_d] | rw [RG_e] | rw [RC_b] | rw [RG_x] | rw [RG_y] | skip); split <;> (try (exfalso; omega)) <;> try simp (disch := omega) [arity, *])
end Go.TM.R8
