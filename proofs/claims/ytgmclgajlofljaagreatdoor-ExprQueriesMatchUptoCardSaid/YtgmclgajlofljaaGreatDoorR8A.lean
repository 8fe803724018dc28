/- Expressions: sizes. -/
import Derived.Test.YtgmclgajlofljaaGreatDoorR8P
import Derived.Test.YtgmclgajlofljaaGreatDoorTmRun
set_option linter.all false
namespace Go.TM.R8
open Go Go.TM Go.Proofs
set_option linter.unusedVariables false
set_option linter.unusedSimpArgs false

mutual
/-- Nodes and depth. -/
def size : Ex' → Nat × Nat
  | .mk _ _ _ _ _ _ args _ _ _ => ((sizeL args).1 + 1, (sizeL args).2 + 1)
def sizeL : List Ex' → Nat × Nat
  | [] => (0, 0)
  | x :: xs => ((size x).1 + (sizeL xs).1, max (size x).2 (sizeL xs).2)
end
/-- The same, from i on. -/
def szF (xs : List Ex') (n d i : Nat) : Nat × Nat := if i < xs.length then szF xs (n + (size (gx xs i)).1) (max d (size (gx xs i)).2) (i + 1) else (n, d)
  termination_by xs.length - i
theorem szF_ge (xs : List Ex') (n d i : Nat) : n ≤ (szF xs n d i).1 := by
  fun_induction szF xs n d i <;> omega
theorem szF_eq (xs : List Ex') (n d i : Nat) : szF xs n d i = (n + (sizeL (xs.drop i)).1, max d (sizeL (xs.drop i)).2) := by
  fun_induction szF xs n d i with
  | case1 n d i h ih =>
    rw [ih, List.drop_eq_getElem_cons h]
    have : gx xs i = xs[i] := by simp [gx, h]
    simp only [sizeL, this, Prod.mk.injEq]
    omega
  | case2 n d i h => rw [List.drop_eq_nil_of_le (by omega)]; simp [sizeL]
theorem szF_zero (xs : List Ex') : szF xs 0 0 0 = sizeL xs := by rw [szF_eq]; simp
theorem size_eq (x : Ex') : size x = ((sizeL x.args).1 + 1, (sizeL x.args).2 + 1) := by cases x; rw [size]; rfl
theorem size_pos (x : Ex') : 1 ≤ (size x).1 := by rw [size_eq]; simp
theorem sizeL_len : ∀ xs : List Ex', xs.length ≤ (sizeL xs).1
  | [] => by simp [sizeL]
  | x :: xs => by have := sizeL_len xs; have := size_pos x; simp only [sizeL, List.length_cons]; omega
theorem sizeL_mem : ∀ (xs : List Ex') (x : Ex'), x ∈ xs → (size x).1 ≤ (sizeL xs).1 ∧ (size x).2 ≤ (sizeL xs).2
  | [], x, h => by cases h
  | y :: xs, x, h => by
    simp only [sizeL]
    rcases List.mem_cons.1 h with rfl | h
    · omega
    · have := sizeL_mem xs x h; omega
theorem depth_le : ∀ x : Ex', (size x).2 ≤ (size x).1 := by
  refine Ex'.ind fun op name bn bits vs an args sig width sg ih => ?_
  have : ∀ xs : List Ex', (∀ x ∈ xs, (size x).2 ≤ (size x).1) → (sizeL xs).2 ≤ (sizeL xs).1 := by
    intro xs
    induction xs with
    | nil => intro _; simp [sizeL]
    | cons x xs h => intro hh; have h1 := h fun y hy => hh y (by simp [hy]); have h2 := hh x (by simp); simp only [sizeL]; omega
  have := this args ih
  simp only [size]; omega

theorem l_size (x : Ex') (n d i : Nat) (ha : x.args.length < 2 ^ 62) (hn : (szF x.args n d i).1 < 2 ^ 62)
    (ih : ∀ i, i < x.args.length → callF E 0 f_expr_Size [(gx x.args i).t] emp = some (.tup [.sc (.int .i64 (size (gx x.args i)).1), .sc (.int .i64 (size (gx x.args i)).2)], emp)) :
    Lp E 1 31 K_expr_Size_h0 K_expr_Size_b0.c ⟨[(2, .sc (.int .i64 n)), (3, .sc (.int .i64 d)), (9, gs x.an 8 (ml Ex'.t x.args)), (10, .sc (.int .i64 x.args.length)), (11, .sc (.int .i64 i))],
      upd emp (1, 1) (.box y_api_Expr x.t.cells)⟩ =
    some (.exit 0, ⟨[(2, .sc (.int .i64 (szF x.args n d i).1)), (3, .sc (.int .i64 (szF x.args n d i).2))], upd emp (1, 1) (.box y_api_Expr x.t.cells)⟩) := by
  fun_induction szF x.args n d i
  case case1 n d i h ih1 =>
    have := szF_ge x.args (n + (size (gx x.args i)).1) (max d (size (gx x.args i)).2) (i + 1)
    (rw [Lp_eq]; rw (occs := .pos [1]) [K_expr_Size_b0]; simp only [KF.f, KC.c, KL.l, Y.x, O.t', oO, KR.r, V.t, V.tL, List.map_cons, List.map_nil, kd_i64, kd_u8, kd_i32, kd_u32, kd_u64, kd_u16])
    simp (disch := omega) [-Int.natCast_add, -Int.natCast_mul, -List.drop_one, *]
  case case2 n d i h =>
    (rw [Lp_eq]; rw (occs := .pos [1]) [K_expr_Size_b0]; simp only [KF.f, KC.c, KL.l, Y.x, O.t', oO, KR.r, V.t, V.tL, List.map_cons, List.map_nil, kd_i64, kd_u8, kd_i32, kd_u32, kd_u64, kd_u16])
    simp (disch := omega) [-Int.natCast_add, -Int.natCast_mul, -List.drop_one, *]
@[simp] theorem c_size (x : Ex') (hx : (size x).1 < 2 ^ 61) : callF E 0 f_expr_Size [x.t] emp = some (.tup [.sc (.int .i64 (size x).1), .sc (.int .i64 (size x).2)], emp) := by
  revert hx
  refine Ex'.ind2 (P := fun x => (size x).1 < 2 ^ 61 → callF E 0 f_expr_Size [x.t] emp = some (.tup [.sc (.int .i64 (size x).1), .sc (.int .i64 (size x).2)], emp)) (fun y ih hx => ?_) x
  have h1 := size_eq y
  have h2 := sizeL_len y.args
  have h3 := depth_le y
  rw [h1] at h3 hx ⊢
  have hl := l_size y 0 0 0 (by simp only [] at hx; omega) (by rw [szF_zero]; simp only [] at hx; omega) (fun i hi => ih i hi (by have := (sizeL_mem _ _ (Ex'.gx_mem y.args i hi)).1; simp only [] at hx; omega))
  rw [szF_zero] at hl
  simp only [] at h3 hx
  clear ih h1
  try simp only [List.length_set, List.length_append, List.length_cons, List.length_nil, List.length_map, List.length_replicate, Nat.zero_add, Nat.succ_eq_add_one, Int.cast_ofNat_Int] at *
  (refine callF_light rfl pf_expr_Size lf_expr_Size (by simp [K_expr_Size, KF.f]) ?_; rw [evF_R]; simp only [K_expr_Size, KF.f, KC.c, KL.l, Y.x, O.t', oO, KR.r, V.t, V.tL, List.map_cons, List.map_nil, kd_i64, kd_u8, kd_i32, kd_u32, kd_u64, kd_u16])
  simp (disch := omega) [-Int.natCast_add, -Int.natCast_mul, -List.drop_one, *]

/-! ### the reference's -/
theorem l_rsize (x : Ex') (n d i : Nat) (ha : x.args.length < 2 ^ 62) (hn : (szF x.args n d i).1 < 2 ^ 62)
    (ih : ∀ i, i < x.args.length → callF E 0 f_ref08_Size [(gx x.args i).t] emp = some (.tup [.sc (.int .i64 (size (gx x.args i)).1), .sc (.int .i64 (size (gx x.args i)).2)], emp)) :
    Lp E 1 34 K_ref08_Size_h0 K_ref08_Size_b0.c ⟨[(1, .ptr (1, 1) 0), (4, .sc (.int .i64 n)), (5, .sc (.int .i64 d)), (6, .sc (.int .i64 i))], upd emp (1, 1) (.box y_api_Expr x.t.cells)⟩ =
    some (.exit 0, ⟨[(4, .sc (.int .i64 (szF x.args n d i).1)), (5, .sc (.int .i64 (szF x.args n d i).2))], upd emp (1, 1) (.box y_api_Expr x.t.cells)⟩) := by
  fun_induction szF x.args n d i
  case case1 n d i h ih1 =>
    have := szF_ge x.args (n + (size (gx x.args i)).1) (max d (size (gx x.args i)).2) (i + 1)
    (rw [Lp_eq]; rw (occs := .pos [1]) [K_ref08_Size_b0]; simp only [KF.f, KC.c, KL.l, Y.x, O.t', oO, KR.r, V.t, V.tL, List.map_cons, List.map_nil, kd_i64, kd_u8, kd_i32, kd_u32, kd_u64, kd_u16])
    simp (disch := omega) [-Int.natCast_add, -Int.natCast_mul, -List.drop_one, *]
  case case2 n d i h =>
    (rw [Lp_eq]; rw (occs := .pos [1]) [K_ref08_Size_b0]; simp only [KF.f, KC.c, KL.l, Y.x, O.t', oO, KR.r, V.t, V.tL, List.map_cons, List.map_nil, kd_i64, kd_u8, kd_i32, kd_u32, kd_u64, kd_u16])
    simp (disch := omega) [-Int.natCast_add, -Int.natCast_mul, -List.drop_one, *]
@[simp] theorem c_rsize (x : Ex') (hx : (size x).1 < 2 ^ 61) : callF E 0 f_ref08_Size [x.t] emp = some (.tup [.sc (.int .i64 (size x).1), .sc (.int .i64 (size x).2)], emp) := by
  revert hx
  refine Ex'.ind2 (P := fun x => (size x).1 < 2 ^ 61 → callF E 0 f_ref08_Size [x.t] emp = some (.tup [.sc (.int .i64 (size x).1), .sc (.int .i64 (size x).2)], emp)) (fun y ih hx => ?_) x
  have h1 := size_eq y
  have h2 := sizeL_len y.args
  have h3 := depth_le y
  have hs : szF y.args 1 0 0 = ((sizeL y.args).1 + 1, (sizeL y.args).2) := by rw [szF_eq]; simp; omega
  rw [h1] at h3 hx ⊢
  have hl := l_rsize y 1 0 0 (by simp only [] at hx; omega) (by rw [hs]; simp only [] at hx ⊢; omega) (fun i hi => ih i hi (by have := (sizeL_mem _ _ (Ex'.gx_mem y.args i hi)).1; simp only [] at hx; omega))
  rw [hs] at hl
  simp only [] at h3 hx
  clear ih h1 hs
  try simp only [List.length_set, List.length_append, List.length_cons, List.length_nil, List.length_map, List.length_replicate, Nat.zero_add, Nat.succ_eq_add_one, Int.cast_ofNat_Int] at *
  (refine callF_light rfl pf_ref08_Size lf_ref08_Size (by simp [K_ref08_Size, KF.f]) ?_; rw [evF_R]; simp only [K_ref08_Size, KF.f, KC.c, KL.l, Y.x, O.t', oO, KR.r, V.t, V.tL, List.map_cons, List.map_nil, kd_i64, kd_u8, kd_i32, kd_u32, kd_u64, kd_u16])
  simp (disch := omega) [-Int.natCast_add, -Int.natCast_mul, -List.drop_one, *]

/-! ### large ones -/
mutual
def wide : Ex' → Bool
  | .mk _ name _ bits _ _ args _ _ _ => decide (200 < name.length) || decide (300 < bits.length) || wideL args
def wideL : List Ex' → Bool
  | [] => false
  | x :: xs => wide x || wideL xs
end
def wdF (xs : List Ex') (i : Nat) : Bool := if i < xs.length then (if wide (gx xs i) = true then true else wdF xs (i + 1)) else false
  termination_by xs.length - i
theorem wdF_eq (xs : List Ex') (i : Nat) : wdF xs i = wideL (xs.drop i) := by
  fun_induction wdF xs i with
  | case1 i h h2 => rw [List.drop_eq_getElem_cons h]; simp only [wideL]; have : gx xs i = xs[i] := by simp [gx, h]
                    rw [← this, h2]; rfl
  | case2 i h h2 ih => rw [List.drop_eq_getElem_cons h, ih]; simp only [wideL]; have : gx xs i = xs[i] := by simp [gx, h]
                       rw [← this]; simp [h2]
  | case3 i h => rw [List.drop_eq_nil_of_le (by omega)]; rfl
theorem wide_eq (x : Ex') : wide x = (decide (200 < x.name.length) || decide (300 < x.bits.length) || wdF x.args 0) := by rw [wdF_eq]; cases x; rw [wide]; rfl
def wdX (xs : List Ex') (i : Nat) (S : Store) : Ex × St := if i < xs.length then (if wide (gx xs i) = true then (.ret, ⟨[(2, .sc (.bool true))], emp⟩) else wdX xs (i + 1) S) else (.exit 0, ⟨[], S⟩)
  termination_by xs.length - i
theorem wdX_eq (xs : List Ex') (i : Nat) (S : Store) : wdX xs i S = if wdF xs i = true then (.ret, ⟨[(2, .sc (.bool true))], emp⟩) else (.exit 0, ⟨[], S⟩) := by
  fun_induction wdX xs i S with
  | case1 i h h2 => rw [wdF]; simp [h, h2]
  | case2 i h h2 ih => rw [ih]; conv => rhs; rw [wdF]
                       simp [h, h2]
  | case3 i h => rw [wdF]; simp [h]
theorem l_wide (x : Ex') (i : Nat) (ha : x.args.length < 2 ^ 62)
    (ih : ∀ i, i < x.args.length → callF E 0 f_law08_wide [(gx x.args i).t] emp = some (.sc (.bool (wide (gx x.args i))), emp)) :
    Lp E 1 28 K_law08_wide_h0 K_law08_wide_b0.c ⟨[(1, .ptr (1, 1) 0), (3, .sc (.int .i64 i))], upd emp (1, 1) (.box y_api_Expr x.t.cells)⟩ =
    some (wdX x.args i (upd emp (1, 1) (.box y_api_Expr x.t.cells))) := by
  fun_induction wdX x.args i (upd emp (1, 1) (.box y_api_Expr x.t.cells)) <;> (rw [Lp_eq]; rw (occs := .pos [1]) [K_law08_wide_b0]; simp only [KF.f, KC.c, KL.l, Y.x, O.t', oO, KR.r, V.t, V.tL, List.map_cons, List.map_nil, kd_i64, kd_u8, kd_i32, kd_u32, kd_u64, kd_u16])
  all_goals simp (disch := omega) [-Int.natCast_add, -Int.natCast_mul, -List.drop_one, *]
@[simp] theorem c_wide (x : Ex') (hx : (size x).1 < 2 ^ 61) : callF E 0 f_law08_wide [x.t] emp = some (.sc (.bool (wide x)), emp) := by
  revert hx
  refine Ex'.ind2 (P := fun x => (size x).1 < 2 ^ 61 → callF E 0 f_law08_wide [x.t] emp = some (.sc (.bool (wide x)), emp)) (fun y ih hx => ?_) x
  have h1 := size_eq y
  have h2 := sizeL_len y.args
  rw [h1] at hx
  simp only [] at hx
  have hl := l_wide y 0 (by omega) (fun i hi => ih i hi (by have := (sizeL_mem _ _ (Ex'.gx_mem y.args i hi)).1; omega))
  rw [wdX_eq] at hl
  rw [wide_eq]
  clear ih h1
  try simp only [List.length_set, List.length_append, List.length_cons, List.length_nil, List.length_map, List.length_replicate, Nat.zero_add, Nat.succ_eq_add_one, Int.cast_ofNat_Int] at *
  (refine callF_light rfl pf_law08_wide lf_law08_wide (by simp [K_law08_wide, KF.f]) ?_; rw [evF_R]; simp only [K_law08_wide, KF.f, KC.c, KL.l, Y.x, O.t', oO, KR.r, V.t, V.tL, List.map_cons, List.map_nil, kd_i64, kd_u8, kd_i32, kd_u32, kd_u64, kd_u16])
  (try simp (disch := omega) [-Int.natCast_add, -Int.natCast_mul, -List.drop_one, *]) <;> repeat' (first | (rw [RC_d]; split <;> (try (exfalso; omega)) <;> try simp (disch := omega) [-Int.natCast_add, -Int.natCast_mul, -List.drop_one, *]) | (rw [RG_d]; split <;> (try (exfalso; omega)) <;> try simp (disch := omega) [-Int.natCast_add, -Int.natCast_mul, -List.drop_one, *]) | (rw [RG_e]; split <;> (try (exfalso; omega)) <;> try simp (disch := omega) [-Int.natCast_add, -Int.natCast_mul, -List.drop_one, *]) | (rw [RC_b]; split <;> (try (exfalso; omega)) <;> try simp (disch := omega) [-Int.natCast_add, -Int.natCast_mul, -List.drop_one, *]) | (rw [RG_x]; split <;> (try (exfalso; omega)) <;> try simp (disch := omega) [-Int.natCast_add, -Int.natCast_mul, -List.drop_one, *]) | (rw [RG_y]; split <;> (try (exfalso; omega)) <;> try simp (disch := omega) [-Int.natCast_add, -Int.natCast_mul, -List.drop_one, *]) | (split <;> (try (exfalso; omega)) <;> try simp (disch := omega) [-Int.natCast_add, -Int.natCast_mul, -List.drop_one, *]))
end Go.TM.R8

namespace Go.TM.R8
open Go Go.TM Go.Proofs
set_option linter.unusedVariables false
set_option linter.unusedSimpArgs false

def named (o : Nat) : Bool := decide (o = 2) || decide (o = 3) || decide (o = 4) || decide (o = 5) || decide (o = 8)
@[simp] theorem c_named (o : Nat) : callF E 0 f_expr_named [.sc (.int .u8 o)] emp = some (.sc (.bool (named o)), emp) := by
  (refine callF_light rfl pf_expr_named lf_expr_named (by simp [K_expr_named, KF.f]) ?_; rw [evF_R]; simp only [K_expr_named, KF.f, KC.c, KL.l, Y.x, O.t', oO, KR.r, V.t, V.tL, List.map_cons, List.map_nil, kd_i64, kd_u8, kd_i32, kd_u32, kd_u64, kd_u16])
  (try simp (disch := omega) [-Int.natCast_add, -Int.natCast_mul, -List.drop_one, named, *]) <;> repeat' (first | (rw [RC_d]; split <;> (try (exfalso; omega)) <;> try simp (disch := omega) [-Int.natCast_add, -Int.natCast_mul, -List.drop_one, named, *]) | (rw [RG_d]; split <;> (try (exfalso; omega)) <;> try simp (disch := omega) [-Int.natCast_add, -Int.natCast_mul, -List.drop_one, named, *]) | (rw [RG_e]; split <;> (try (exfalso; omega)) <;> try simp (disch := omega) [-Int.natCast_add, -Int.natCast_mul, -List.drop_one, named, *]) | (rw [RC_b]; split <;> (try (exfalso; omega)) <;> try simp (disch := omega) [-Int.natCast_add, -Int.natCast_mul, -List.drop_one, named, *]) | (rw [RG_x]; split <;> (try (exfalso; omega)) <;> try simp (disch := omega) [-Int.natCast_add, -Int.natCast_mul, -List.drop_one, named, *]) | (rw [RG_y]; split <;> (try (exfalso; omega)) <;> try simp (disch := omega) [-Int.natCast_add, -Int.natCast_mul, -List.drop_one, named, *]) | (split <;> (try (exfalso; omega)) <;> try simp (disch := omega) [-Int.natCast_add, -Int.natCast_mul, -List.drop_one, named, *]))
@[simp] theorem c_Named (o : Nat) : callF E 0 f_ref08_Named [.sc (.int .u8 o)] emp = some (.sc (.bool (named o)), emp) := by
  (refine callF_light rfl pf_ref08_Named lf_ref08_Named (by simp [K_ref08_Named, KF.f]) ?_; rw [evF_R]; simp only [K_ref08_Named, KF.f, KC.c, KL.l, Y.x, O.t', oO, KR.r, V.t, V.tL, List.map_cons, List.map_nil, kd_i64, kd_u8, kd_i32, kd_u32, kd_u64, kd_u16])
  (try simp (disch := omega) [-Int.natCast_add, -Int.natCast_mul, -List.drop_one, named, *]) <;> repeat' (first | (rw [RC_d]; split <;> (try (exfalso; omega)) <;> try simp (disch := omega) [-Int.natCast_add, -Int.natCast_mul, -List.drop_one, named, *]) | (rw [RG_d]; split <;> (try (exfalso; omega)) <;> try simp (disch := omega) [-Int.natCast_add, -Int.natCast_mul, -List.drop_one, named, *]) | (rw [RG_e]; split <;> (try (exfalso; omega)) <;> try simp (disch := omega) [-Int.natCast_add, -Int.natCast_mul, -List.drop_one, named, *]) | (rw [RC_b]; split <;> (try (exfalso; omega)) <;> try simp (disch := omega) [-Int.natCast_add, -Int.natCast_mul, -List.drop_one, named, *]) | (rw [RG_x]; split <;> (try (exfalso; omega)) <;> try simp (disch := omega) [-Int.natCast_add, -Int.natCast_mul, -List.drop_one, named, *]) | (rw [RG_y]; split <;> (try (exfalso; omega)) <;> try simp (disch := omega) [-Int.natCast_add, -Int.natCast_mul, -List.drop_one, named, *]) | (split <;> (try (exfalso; omega)) <;> try simp (disch := omega) [-Int.natCast_add, -Int.natCast_mul, -List.drop_one, named, *]))
def arity (o n : Nat) : Bool :=
  if o = 1 ∨ o = 2 then decide (n = 0) else if o = 3 then decide (n = 1) || decide (n = 2) else if o = 4 ∨ o = 5 then decide (n = 2) else if o = 6 ∨ o = 8 then decide (0 < n)
  else if o = 7 then decide (1 < n) else if o = 9 then decide (n < 2) else if o = 10 then decide (n = 3) else if o < 21 then decide (n = 1) else decide (n = 2)
set_option maxHeartbeats 1000000 in
@[simp] theorem c_arity (x : Ex') (h : x.args.length < 2 ^ 62) : callF E 0 f_expr_arity [x.t] emp = some (.sc (.bool (arity x.op x.args.length)), emp) := by
  (refine callF_light rfl pf_expr_arity lf_expr_arity (by simp [K_expr_arity, KF.f]) ?_; rw [evF_R]; simp only [K_expr_arity, KF.f, KC.c, KL.l, Y.x, O.t', oO, KR.r, V.t, V.tL, List.map_cons, List.map_nil, kd_i64, kd_u8, kd_i32, kd_u32, kd_u64, kd_u16])
  (try simp (disch := omega) [-Int.natCast_add, -Int.natCast_mul, -List.drop_one, arity, *]) <;> repeat' (first | (rw [RC_d]; split <;> (try (exfalso; omega)) <;> try simp (disch := omega) [-Int.natCast_add, -Int.natCast_mul, -List.drop_one, arity, *]) | (rw [RG_d]; split <;> (try (exfalso; omega)) <;> try simp (disch := omega) [-Int.natCast_add, -Int.natCast_mul, -List.drop_one, arity, *]) | (rw [RG_e]; split <;> (try (exfalso; omega)) <;> try simp (disch := omega) [-Int.natCast_add, -Int.natCast_mul, -List.drop_one, arity, *]) | (rw [RC_b]; split <;> (try (exfalso; omega)) <;> try simp (disch := omega) [-Int.natCast_add, -Int.natCast_mul, -List.drop_one, arity, *]) | (rw [RG_x]; split <;> (try (exfalso; omega)) <;> try simp (disch := omega) [-Int.natCast_add, -Int.natCast_mul, -List.drop_one, arity, *]) | (rw [RG_y]; split <;> (try (exfalso; omega)) <;> try simp (disch := omega) [-Int.natCast_add, -Int.natCast_mul, -List.drop_one, arity, *]) | (split <;> (try (exfalso; omega)) <;> try simp (disch := omega) [-Int.natCast_add, -Int.natCast_mul, -List.drop_one, arity, *]))
set_option maxHeartbeats 1000000 in
@[simp] theorem c_Args (x : Ex') (h : x.args.length < 2 ^ 62) : callF E 0 f_ref08_Args [x.t] emp = some (.sc (.bool (arity x.op x.args.length)), emp) := by
  (refine callF_light rfl pf_ref08_Args lf_ref08_Args (by simp [K_ref08_Args, KF.f]) ?_; rw [evF_R]; simp only [K_ref08_Args, KF.f, KC.c, KL.l, Y.x, O.t', oO, KR.r, V.t, V.tL, List.map_cons, List.map_nil, kd_i64, kd_u8, kd_i32, kd_u32, kd_u64, kd_u16])
  (try simp (disch := omega) [-Int.natCast_add, -Int.natCast_mul, -List.drop_one, arity, *]) <;> repeat' (first | (rw [RC_d]; split <;> (try (exfalso; omega)) <;> try simp (disch := omega) [-Int.natCast_add, -Int.natCast_mul, -List.drop_one, arity, *]) | (rw [RG_d]; split <;> (try (exfalso; omega)) <;> try simp (disch := omega) [-Int.natCast_add, -Int.natCast_mul, -List.drop_one, arity, *]) | (rw [RG_e]; split <;> (try (exfalso; omega)) <;> try simp (disch := omega) [-Int.natCast_add, -Int.natCast_mul, -List.drop_one, arity, *]) | (rw [RC_b]; split <;> (try (exfalso; omega)) <;> try simp (disch := omega) [-Int.natCast_add, -Int.natCast_mul, -List.drop_one, arity, *]) | (rw [RG_x]; split <;> (try (exfalso; omega)) <;> try simp (disch := omega) [-Int.natCast_add, -Int.natCast_mul, -List.drop_one, arity, *]) | (rw [RG_y]; split <;> (try (exfalso; omega)) <;> try simp (disch := omega) [-Int.natCast_add, -Int.natCast_mul, -List.drop_one, arity, *]) | (split <;> (try (exfalso; omega)) <;> try simp (disch := omega) [-Int.natCast_add, -Int.natCast_mul, -List.drop_one, arity, *]))
  all_goals omega
end Go.TM.R8

namespace Go.TM.R8
open Go Go.TM Go.Proofs
set_option linter.unusedVariables false
set_option linter.unusedSimpArgs false

abbrev fnV (f : FuncId) : T := .sc (.func (.func f) #[] #[])
/-- The first one that fits, from i on; -1 where there is none. -/
def ixF (p : Ex' → Bool) (xs : List Ex') (i : Nat) : Int := if i < xs.length then (if p (gx xs i) = true then (i : Int) else ixF p xs (i + 1)) else -1
  termination_by xs.length - i
def ixX (p : Ex' → Bool) (xs : List Ex') (i : Nat) : Ex × St := if i < xs.length then (if p (gx xs i) = true then (.ret, ⟨[(4, .sc (.int .i64 i))], emp⟩) else ixX p xs (i + 1)) else (.exit 0, ⟨[], emp⟩)
  termination_by xs.length - i
theorem l_ix (p : Ex' → Bool) (f : FuncId) (b : Bool) (xs : List Ex') (i : Nat) (ha : xs.length < 2 ^ 62) (hp : ∀ i, i < xs.length → callF E 0 f [(gx xs i).t] emp = some (.sc (.bool (p (gx xs i))), emp)) (hom : omT f = []) :
    Lp E 1 19 K_slices_IndexFunc_Expr_h0 K_slices_IndexFunc_Expr_b0.c ⟨[(0, gs b 8 (ml Ex'.t xs)), (1, fnV f), (7, .sc (.int .i64 xs.length)), (8, .sc (.int .i64 i))], emp⟩ = some (ixX p xs i) := by
  fun_induction ixX p xs i <;> (rw [Lp_eq]; rw (occs := .pos [1]) [K_slices_IndexFunc_Expr_b0]; simp only [KF.f, KC.c, KL.l, Y.x, O.t', oO, KR.r, V.t, V.tL, List.map_cons, List.map_nil, kd_i64, kd_u8, kd_i32, kd_u32, kd_u64, kd_u16])
  all_goals simp (disch := omega) [-Int.natCast_add, -Int.natCast_mul, -List.drop_one, *]
theorem c_ix (p : Ex' → Bool) (f : FuncId) (b : Bool) (xs : List Ex') (ha : xs.length < 2 ^ 62) (hp : ∀ i, i < xs.length → callF E 0 f [(gx xs i).t] emp = some (.sc (.bool (p (gx xs i))), emp)) (hom : omT f = []) :
    callF E 0 f_slices_IndexFunc_Expr [gs b 8 (ml Ex'.t xs), fnV f] emp = some (.sc (.int .i64 (ixF p xs 0)), emp) := by
  have h := l_ix p f b xs 0 ha hp hom
  have key : ∀ i, (∃ k : Nat, ixF p xs i = k ∧ ixX p xs i = (.ret, ⟨[(4, .sc (.int .i64 k))], emp⟩)) ∨ (ixF p xs i = -1 ∧ ixX p xs i = (.exit 0, ⟨[], emp⟩)) := by
    intro i
    fun_induction ixF p xs i with
    | case1 i h1 h2 => exact .inl ⟨i, rfl, by rw [ixX]; simp [h1, h2]⟩
    | case2 i h1 h2 ih => rw [ixX]; simp [h1, h2]; simpa using ih
    | case3 i h1 => exact .inr ⟨rfl, by rw [ixX]; simp [h1]⟩
  try simp only [List.length_set, List.length_append, List.length_cons, List.length_nil, List.length_map, List.length_replicate, Nat.zero_add, Nat.succ_eq_add_one, Int.cast_ofNat_Int] at *
  rcases key 0 with ⟨k, h1, h2⟩ | ⟨h1, h2⟩ <;> rw [h2] at h <;> rw [h1] <;> clear h1 h2 key hp <;> (refine callF_light rfl pf_slices_IndexFunc_Expr lf_slices_IndexFunc_Expr (by simp [K_slices_IndexFunc_Expr, KF.f]) ?_; rw [evF_R]; simp only [K_slices_IndexFunc_Expr, KF.f, KC.c, KL.l, Y.x, O.t', oO, KR.r, V.t, V.tL, List.map_cons, List.map_nil, kd_i64, kd_u8, kd_i32, kd_u32, kd_u64, kd_u16]) <;> simp (disch := omega) [-Int.natCast_add, -Int.natCast_mul, -List.drop_one, *]
theorem ixF_any (p : Ex' → Bool) (xs : List Ex') (i : Nat) : decide (0 ≤ ixF p xs i) = (xs.drop i).any p := by
  fun_induction ixF p xs i with
  | case1 i h1 h2 =>
    rw [List.drop_eq_getElem_cons h1]
    have : gx xs i = xs[i] := by simp [gx, h1]
    rw [this] at h2
    rw [List.any_cons, h2, Bool.true_or]; simp
  | case2 i h1 h2 ih =>
    rw [List.drop_eq_getElem_cons h1, ih]
    have : gx xs i = xs[i] := by simp [gx, h1]
    rw [this, Bool.not_eq_true] at h2
    rw [List.any_cons, h2, Bool.false_or]
  | case3 i h1 => rw [List.drop_eq_nil_of_le (by omega)]; rfl
theorem c_contains (p : Ex' → Bool) (f : FuncId) (b : Bool) (xs : List Ex') (ha : xs.length < 2 ^ 62) (hp : ∀ i, i < xs.length → callF E 0 f [(gx xs i).t] emp = some (.sc (.bool (p (gx xs i))), emp)) (hom : omT f = []) :
    callF E 0 f_slices_ContainsFunc_Expr [gs b 8 (ml Ex'.t xs), fnV f] emp = some (.sc (.bool (xs.any p)), emp) := by
  have h := c_ix p f b xs ha hp hom
  have h2 := ixF_any p xs 0
  rw [List.drop_zero] at h2
  rw [← h2]
  clear hp h2
  (refine callF_light rfl pf_slices_ContainsFunc_Expr lf_slices_ContainsFunc_Expr (by simp [K_slices_ContainsFunc_Expr, KF.f]) ?_; rw [evF_R]; simp only [K_slices_ContainsFunc_Expr, KF.f, KC.c, KL.l, Y.x, O.t', oO, KR.r, V.t, V.tL, List.map_cons, List.map_nil, kd_i64, kd_u8, kd_i32, kd_u32, kd_u64, kd_u16])
  simp (disch := omega) [-Int.natCast_add, -Int.natCast_mul, -List.drop_one, *]

/-! ### lvalues -/
mutual
def lvalue : Ex' → Bool
  | .mk op _ _ _ _ _ args _ _ _ => if op = 2 ∨ op = 3 ∨ op = 4 ∨ op = 5 then arity op args.length else if op = 6 then decide (0 < args.length) && lvalueL args else false
def lvalueL : List Ex' → Bool
  | [] => true
  | x :: xs => lvalue x && lvalueL xs
end
theorem lvalueL_all : ∀ xs, lvalueL xs = xs.all lvalue
  | [] => rfl
  | x :: xs => by rw [lvalueL, lvalueL_all xs]; rfl
theorem lvalue_eq (x : Ex') : lvalue x = if x.op = 2 ∨ x.op = 3 ∨ x.op = 4 ∨ x.op = 5 then arity x.op x.args.length else if x.op = 6 then decide (0 < x.args.length) && x.args.all lvalue else false := by
  cases x; rw [lvalue, lvalueL_all]; rfl
theorem any_not (xs : List Ex') : (!(xs.any fun x => !lvalue x)) = xs.all lvalue := by
  induction xs with
  | nil => rfl
  | cons x xs ih => simp only [List.any_cons, List.all_cons, ← ih]; cases lvalue x <;> simp
theorem args_len (x : Ex') : x.args.length < (size x).1 := by rw [size_eq]; have := sizeL_len x.args; simp only []; omega
theorem size_arg (x : Ex') (i : Nat) (h : i < x.args.length) : (size (gx x.args i)).1 < (size x).1 := by
  rw [size_eq x]; have := (sizeL_mem _ _ (Ex'.gx_mem x.args i h)).1; simp only []; omega
@[simp] theorem c_lvalue (x : Ex') (hx : (size x).1 < 2 ^ 61) : callF E 0 f_expr_Lvalue [x.t] emp = some (.sc (.bool (lvalue x)), emp) := by
  revert hx
  refine Ex'.ind2 (P := fun x => (size x).1 < 2 ^ 61 → callF E 0 f_expr_Lvalue [x.t] emp = some (.sc (.bool (lvalue x)), emp)) (fun y ih hx => ?_) x
  have h0 : y.args.length < 2 ^ 62 := by have := args_len y; omega
  have h1 := c_contains (fun x => !lvalue x) f_expr_Lvalue_1 y.an y.args h0 (fun i hi => by
    have h2 := ih i hi (by have := size_arg y i hi; omega)
    clear ih
    (refine callF_light rfl pf_expr_Lvalue_1 lf_expr_Lvalue_1 (by simp [K_expr_Lvalue_1, KF.f]) ?_; rw [evF_R]; simp only [K_expr_Lvalue_1, KF.f, KC.c, KL.l, Y.x, O.t', oO, KR.r, V.t, V.tL, List.map_cons, List.map_nil, kd_i64, kd_u8, kd_i32, kd_u32, kd_u64, kd_u16])
    simp (disch := omega) [-Int.natCast_add, -Int.natCast_mul, -List.drop_one, *]) rfl
  have h3 := any_not y.args
  generalize hq : (y.args.any fun x => !lvalue x) = q at h1 h3
  rw [lvalue_eq]
  clear ih
  (refine callF_light rfl pf_expr_Lvalue lf_expr_Lvalue (by simp [K_expr_Lvalue, KF.f]) ?_; rw [evF_R]; simp only [K_expr_Lvalue, KF.f, KC.c, KL.l, Y.x, O.t', oO, KR.r, V.t, V.tL, List.map_cons, List.map_nil, kd_i64, kd_u8, kd_i32, kd_u32, kd_u64, kd_u16])
  (try simp (disch := omega) [-Int.natCast_add, -Int.natCast_mul, -List.drop_one, *]) <;> repeat' (first | (rw [RC_d]; split <;> (try (exfalso; omega)) <;> try simp (disch := omega) [-Int.natCast_add, -Int.natCast_mul, -List.drop_one, *]) | (rw [RG_d]; split <;> (try (exfalso; omega)) <;> try simp (disch := omega) [-Int.natCast_add, -Int.natCast_mul, -List.drop_one, *]) | (rw [RG_e]; split <;> (try (exfalso; omega)) <;> try simp (disch := omega) [-Int.natCast_add, -Int.natCast_mul, -List.drop_one, *]) | (rw [RC_b]; split <;> (try (exfalso; omega)) <;> try simp (disch := omega) [-Int.natCast_add, -Int.natCast_mul, -List.drop_one, *]) | (rw [RG_x]; split <;> (try (exfalso; omega)) <;> try simp (disch := omega) [-Int.natCast_add, -Int.natCast_mul, -List.drop_one, *]) | (rw [RG_y]; split <;> (try (exfalso; omega)) <;> try simp (disch := omega) [-Int.natCast_add, -Int.natCast_mul, -List.drop_one, *]) | (split <;> (try (exfalso; omega)) <;> try simp (disch := omega) [-Int.natCast_add, -Int.natCast_mul, -List.drop_one, *]))
end Go.TM.R8

namespace Go.TM.R8
open Go Go.TM Go.Proofs
set_option linter.unusedVariables false
set_option linter.unusedSimpArgs false

/-! ### the reference's lvalues -/
def lvX (xs : List Ex') (i : Nat) (S : Store) : Ex × St := if i < xs.length then (if lvalue (gx xs i) = true then lvX xs (i + 1) S else (.ret, ⟨[(2, .sc (.bool false))], emp⟩)) else (.exit 0, ⟨[(1, .ptr (1, 1) 0)], S⟩)
  termination_by xs.length - i
theorem lvX_eq (xs : List Ex') (i : Nat) (S : Store) : lvX xs i S = if (xs.drop i).all lvalue = true then (.exit 0, ⟨[(1, .ptr (1, 1) 0)], S⟩) else (.ret, ⟨[(2, .sc (.bool false))], emp⟩) := by
  fun_induction lvX xs i S with
  | case1 i h1 h2 ih =>
    rw [ih, List.drop_eq_getElem_cons h1]
    have : gx xs i = xs[i] := by simp [gx, h1]
    rw [this] at h2
    rw [List.all_cons, h2, Bool.true_and]
  | case2 i h1 h2 =>
    rw [List.drop_eq_getElem_cons h1]
    have : gx xs i = xs[i] := by simp [gx, h1]
    rw [this, Bool.not_eq_true] at h2
    rw [List.all_cons, h2, Bool.false_and]; rfl
  | case3 i h1 => rw [List.drop_eq_nil_of_le (by omega)]; rfl
theorem l_rlv (x : Ex') (i : Nat) (ha : x.args.length < 2 ^ 62) (ih : ∀ i, i < x.args.length → callF E 0 f_ref08_Lvalue [(gx x.args i).t] emp = some (.sc (.bool (lvalue (gx x.args i))), emp)) :
    Lp E 1 48 K_ref08_Lvalue_h0 K_ref08_Lvalue_b0.c ⟨[(1, .ptr (1, 1) 0), (3, .sc (.int .i64 i))], upd emp (1, 1) (.box y_api_Expr x.t.cells)⟩ = some (lvX x.args i (upd emp (1, 1) (.box y_api_Expr x.t.cells))) := by
  fun_induction lvX x.args i (upd emp (1, 1) (.box y_api_Expr x.t.cells)) <;> (rw [Lp_eq]; rw (occs := .pos [1]) [K_ref08_Lvalue_b0]; simp only [KF.f, KC.c, KL.l, Y.x, O.t', oO, KR.r, V.t, V.tL, List.map_cons, List.map_nil, kd_i64, kd_u8, kd_i32, kd_u32, kd_u64, kd_u16])
  all_goals simp (disch := omega) [-Int.natCast_add, -Int.natCast_mul, -List.drop_one, *]
theorem lvalue_arity (x : Ex') : lvalue x = if x.op = 6 then (if x.args.all lvalue = true then arity x.op x.args.length else false) else if x.op = 2 ∨ x.op = 3 ∨ x.op = 4 ∨ x.op = 5 then arity x.op x.args.length else false := by
  rw [lvalue_eq]
  by_cases h : x.op = 6
  · have h2 : arity 6 x.args.length = decide (0 < x.args.length) := rfl
    rw [h, h2]; cases x.args.all lvalue <;> simp
  · simp [h]
@[simp] theorem c_rlvalue (x : Ex') (hx : (size x).1 < 2 ^ 61) : callF E 0 f_ref08_Lvalue [x.t] emp = some (.sc (.bool (lvalue x)), emp) := by
  revert hx
  refine Ex'.ind2 (P := fun x => (size x).1 < 2 ^ 61 → callF E 0 f_ref08_Lvalue [x.t] emp = some (.sc (.bool (lvalue x)), emp)) (fun y ih hx => ?_) x
  have h0 : y.args.length < 2 ^ 62 := by have := args_len y; omega
  have h1 := l_rlv y 0 h0 (fun i hi => ih i hi (by have := size_arg y i hi; omega))
  rw [lvX_eq, List.drop_zero] at h1
  rw [lvalue_arity]
  generalize hq : y.args.all lvalue = q at h1
  clear ih
  try simp only [List.length_set, List.length_append, List.length_cons, List.length_nil, List.length_map, List.length_replicate, Nat.zero_add, Nat.succ_eq_add_one, Int.cast_ofNat_Int] at *
  (refine callF_light rfl pf_ref08_Lvalue lf_ref08_Lvalue (by simp [K_ref08_Lvalue, KF.f]) ?_; rw [evF_R]; simp only [K_ref08_Lvalue, KF.f, KC.c, KL.l, Y.x, O.t', oO, KR.r, V.t, V.tL, List.map_cons, List.map_nil, kd_i64, kd_u8, kd_i32, kd_u32, kd_u64, kd_u16])
  cases q <;> (try simp (disch := omega) [-Int.natCast_add, -Int.natCast_mul, -List.drop_one, *]) <;> repeat' (first | (rw [RC_d]; split <;> (try (exfalso; omega)) <;> try simp (disch := omega) [-Int.natCast_add, -Int.natCast_mul, -List.drop_one, *]) | (rw [RG_d]; split <;> (try (exfalso; omega)) <;> try simp (disch := omega) [-Int.natCast_add, -Int.natCast_mul, -List.drop_one, *]) | (rw [RG_e]; split <;> (try (exfalso; omega)) <;> try simp (disch := omega) [-Int.natCast_add, -Int.natCast_mul, -List.drop_one, *]) | (rw [RC_b]; split <;> (try (exfalso; omega)) <;> try simp (disch := omega) [-Int.natCast_add, -Int.natCast_mul, -List.drop_one, *]) | (rw [RG_x]; split <;> (try (exfalso; omega)) <;> try simp (disch := omega) [-Int.natCast_add, -Int.natCast_mul, -List.drop_one, *]) | (rw [RG_y]; split <;> (try (exfalso; omega)) <;> try simp (disch := omega) [-Int.natCast_add, -Int.natCast_mul, -List.drop_one, *]) | (split <;> (try (exfalso; omega)) <;> try simp (disch := omega) [-Int.natCast_add, -Int.natCast_mul, -List.drop_one, *]))

/-! ### equality -/
def eqB (a b : List Nat) : Bool := decide (a.length = b.length) && decide (a = b)
theorem eqB_eq (a b : List Nat) : eqB a b = decide (a = b) := by
  unfold eqB; by_cases h : a = b
  · subst h; simp
  · simp [h]
def ebX (r : Ex × St) (a b : List Nat) (S : Store) (i : Nat) : Ex × St := if i < a.length then (if gn a i = gn b i then ebX r a b S (i + 1) else r) else (.exit 0, ⟨[], S⟩)
  termination_by a.length - i
theorem ebX_eq (r : Ex × St) (a b : List Nat) (S : Store) (i : Nat) (h : a.length = b.length) : ebX r a b S i = if decide (a.drop i = b.drop i) = true then (.exit 0, ⟨[], S⟩) else r := by
  simp only [decide_eq_true_eq]
  fun_induction ebX r a b S i with
  | case1 i h1 h2 ih =>
    have h3 : gn a i = a[i] := by simp [gn, h1]
    have h4 : gn b i = b[i] := by simp [gn, show i < b.length by omega]
    rw [ih, List.drop_eq_getElem_cons h1, List.drop_eq_getElem_cons (show i < b.length by omega)]
    rw [h3, h4] at h2
    simp only [List.cons.injEq, h2, true_and]
  | case2 i h1 h2 =>
    have h3 : gn a i = a[i] := by simp [gn, h1]
    have h4 : gn b i = b[i] := by simp [gn, show i < b.length by omega]
    rw [List.drop_eq_getElem_cons h1, List.drop_eq_getElem_cons (show i < b.length by omega)]
    rw [h3, h4] at h2
    simp only [List.cons.injEq, h2, false_and, if_false]
  | case3 i h1 => rw [List.drop_eq_nil_of_le (by omega), List.drop_eq_nil_of_le (by omega)]; simp
theorem l_eqBit (b b' : Bool) (x y : List Nat) (i : Nat) (h : y.length = x.length) (ha : x.length < 2 ^ 62) :
    Lp E 1 26 K_slices_Equal_Bit_h0 K_slices_Equal_Bit_b0.c ⟨[(0, gs b 1 (ul x)), (1, gs b' 1 (ul y)), (12, .sc (.int .i64 x.length)), (13, .sc (.int .i64 i))], emp⟩ = some (ebX (.ret, ⟨[(4, .sc (.bool false))], emp⟩) x y emp i) := by
  fun_induction ebX (.ret, ⟨[(4, .sc (.bool false))], emp⟩) x y emp i <;> (rw [Lp_eq]; rw (occs := .pos [1]) [K_slices_Equal_Bit_b0]; simp only [KF.f, KC.c, KL.l, Y.x, O.t', oO, KR.r, V.t, V.tL, List.map_cons, List.map_nil, kd_i64, kd_u8, kd_i32, kd_u32, kd_u64, kd_u16])
  all_goals simp (disch := omega) [-Int.natCast_add, -Int.natCast_mul, -List.drop_one, *]
@[simp] theorem c_eqBit (b b' : Bool) (x y : List Nat) (ha : x.length < 2 ^ 62) (hb : y.length < 2 ^ 62) : callF E 0 f_slices_Equal_Bit [gs b 1 (ul x), gs b' 1 (ul y)] emp = some (.sc (.bool (decide (x = y))), emp) := by
  by_cases h : x.length = y.length
  · have hl := l_eqBit b b' x y 0 h.symm ha
    rw [ebX_eq _ _ _ _ _ h, List.drop_zero, List.drop_zero] at hl
    try simp only [List.length_set, List.length_append, List.length_cons, List.length_nil, List.length_map, List.length_replicate, Nat.zero_add, Nat.succ_eq_add_one, Int.cast_ofNat_Int] at *
    have h2 : decide (x.length = y.length) = true := by simpa using h
    clear h
    generalize decide (x = y) = q at hl ⊢
    (refine callF_light rfl pf_slices_Equal_Bit lf_slices_Equal_Bit (by simp [K_slices_Equal_Bit, KF.f]) ?_; rw [evF_R]; simp only [K_slices_Equal_Bit, KF.f, KC.c, KL.l, Y.x, O.t', oO, KR.r, V.t, V.tL, List.map_cons, List.map_nil, kd_i64, kd_u8, kd_i32, kd_u32, kd_u64, kd_u16])
    cases q <;> (try simp (disch := omega) [-Int.natCast_add, -Int.natCast_mul, -List.drop_one, *]) <;> repeat' (first | (rw [RC_d]; split <;> (try (exfalso; omega)) <;> try simp (disch := omega) [-Int.natCast_add, -Int.natCast_mul, -List.drop_one, *]) | (rw [RG_d]; split <;> (try (exfalso; omega)) <;> try simp (disch := omega) [-Int.natCast_add, -Int.natCast_mul, -List.drop_one, *]) | (rw [RG_e]; split <;> (try (exfalso; omega)) <;> try simp (disch := omega) [-Int.natCast_add, -Int.natCast_mul, -List.drop_one, *]) | (rw [RC_b]; split <;> (try (exfalso; omega)) <;> try simp (disch := omega) [-Int.natCast_add, -Int.natCast_mul, -List.drop_one, *]) | (rw [RG_x]; split <;> (try (exfalso; omega)) <;> try simp (disch := omega) [-Int.natCast_add, -Int.natCast_mul, -List.drop_one, *]) | (rw [RG_y]; split <;> (try (exfalso; omega)) <;> try simp (disch := omega) [-Int.natCast_add, -Int.natCast_mul, -List.drop_one, *]) | (split <;> (try (exfalso; omega)) <;> try simp (disch := omega) [-Int.natCast_add, -Int.natCast_mul, -List.drop_one, *]))
  · have h3 : ¬ x = y := fun e => h (by rw [e])
    (refine callF_light rfl pf_slices_Equal_Bit lf_slices_Equal_Bit (by simp [K_slices_Equal_Bit, KF.f]) ?_; rw [evF_R]; simp only [K_slices_Equal_Bit, KF.f, KC.c, KL.l, Y.x, O.t', oO, KR.r, V.t, V.tL, List.map_cons, List.map_nil, kd_i64, kd_u8, kd_i32, kd_u32, kd_u64, kd_u16])
    (try simp (disch := omega) [-Int.natCast_add, -Int.natCast_mul, -List.drop_one, *]) <;> repeat' (first | (rw [RC_d]; split <;> (try (exfalso; omega)) <;> try simp (disch := omega) [-Int.natCast_add, -Int.natCast_mul, -List.drop_one, *]) | (rw [RG_d]; split <;> (try (exfalso; omega)) <;> try simp (disch := omega) [-Int.natCast_add, -Int.natCast_mul, -List.drop_one, *]) | (rw [RG_e]; split <;> (try (exfalso; omega)) <;> try simp (disch := omega) [-Int.natCast_add, -Int.natCast_mul, -List.drop_one, *]) | (rw [RC_b]; split <;> (try (exfalso; omega)) <;> try simp (disch := omega) [-Int.natCast_add, -Int.natCast_mul, -List.drop_one, *]) | (rw [RG_x]; split <;> (try (exfalso; omega)) <;> try simp (disch := omega) [-Int.natCast_add, -Int.natCast_mul, -List.drop_one, *]) | (rw [RG_y]; split <;> (try (exfalso; omega)) <;> try simp (disch := omega) [-Int.natCast_add, -Int.natCast_mul, -List.drop_one, *]) | (split <;> (try (exfalso; omega)) <;> try simp (disch := omega) [-Int.natCast_add, -Int.natCast_mul, -List.drop_one, *]))
end Go.TM.R8

namespace Go.TM.R8
open Go Go.TM Go.Proofs
set_option linter.unusedVariables false
set_option linter.unusedSimpArgs false

/-! ### rows held against each other -/
def efX (p : Ex' → Ex' → Bool) (r q : Ex × St) (xs ys : List Ex') (i : Nat) : Ex × St := if i < xs.length then (if p (gx xs i) (gx ys i) = true then efX p r q xs ys (i + 1) else r) else q
  termination_by xs.length - i
def allEq (p : Ex' → Ex' → Bool) : List Ex' → List Ex' → Bool
  | x :: xs, y :: ys => p x y && allEq p xs ys
  | _, _ => true
theorem efX_eq (p : Ex' → Ex' → Bool) (r q : Ex × St) (xs ys : List Ex') (i : Nat) (h : ys.length = xs.length) : efX p r q xs ys i = if allEq p (xs.drop i) (ys.drop i) = true then q else r := by
  fun_induction efX p r q xs ys i with
  | case1 i h1 h2 ih =>
    have h3 : gx xs i = xs[i] := by simp [gx, h1]
    have h4 : gx ys i = ys[i] := by simp [gx, show i < ys.length by omega]
    rw [ih, List.drop_eq_getElem_cons h1, List.drop_eq_getElem_cons (show i < ys.length by omega), allEq, ← h3, ← h4, h2, Bool.true_and]
  | case2 i h1 h2 =>
    have h3 : gx xs i = xs[i] := by simp [gx, h1]
    have h4 : gx ys i = ys[i] := by simp [gx, show i < ys.length by omega]
    rw [Bool.not_eq_true] at h2
    rw [List.drop_eq_getElem_cons h1, List.drop_eq_getElem_cons (show i < ys.length by omega), allEq, ← h3, ← h4, h2, Bool.false_and]; rfl
  | case3 i h1 => rw [List.drop_eq_nil_of_le (by omega)]; simp [allEq]
theorem l_eqf (p : Ex' → Ex' → Bool) (f : FuncId) (b b' : Bool) (xs ys : List Ex') (i : Nat) (ha : xs.length < 2 ^ 62) (hl : ys.length = xs.length) (hp : ∀ i, i < xs.length → callF E 0 f [(gx xs i).t, (gx ys i).t] emp = some (.sc (.bool (p (gx xs i) (gx ys i))), emp)) (hom : omT f = []) :
    Lp E 1 32 K_slices_EqualFunc_Expr_h0 K_slices_EqualFunc_Expr_b0.c ⟨[(1, gs b' 8 (ml Ex'.t ys)), (2, fnV f), (15, gs b 8 (ml Ex'.t xs)), (16, .sc (.int .i64 xs.length)), (17, .sc (.int .i64 i))], emp⟩ = some (efX p (.ret, ⟨[(6, .sc (.bool false))], emp⟩) (.exit 0, ⟨[], emp⟩) xs ys i) := by
  fun_induction efX p (.ret, ⟨[(6, .sc (.bool false))], emp⟩) (.exit 0, ⟨[], emp⟩) xs ys i <;> (rw [Lp_eq]; rw (occs := .pos [1]) [K_slices_EqualFunc_Expr_b0]; simp only [KF.f, KC.c, KL.l, Y.x, O.t', oO, KR.r, V.t, V.tL, List.map_cons, List.map_nil, kd_i64, kd_u8, kd_i32, kd_u32, kd_u64, kd_u16])
  all_goals simp (disch := omega) [-Int.natCast_add, -Int.natCast_mul, -List.drop_one, *]
theorem c_eqf (p : Ex' → Ex' → Bool) (f : FuncId) (b b' : Bool) (xs ys : List Ex') (ha : xs.length < 2 ^ 62) (hb : ys.length < 2 ^ 62) (hp : ∀ i, i < xs.length → i < ys.length → callF E 0 f [(gx xs i).t, (gx ys i).t] emp = some (.sc (.bool (p (gx xs i) (gx ys i))), emp)) (hom : omT f = []) :
    callF E 0 f_slices_EqualFunc_Expr [gs b 8 (ml Ex'.t xs), gs b' 8 (ml Ex'.t ys), fnV f] emp = some (.sc (.bool (decide (xs.length = ys.length) && allEq p xs ys)), emp) := by
  by_cases h : xs.length = ys.length
  · have hl := l_eqf p f b b' xs ys 0 ha h.symm (fun i hi => hp i hi (by omega)) hom
    rw [efX_eq _ _ _ _ _ _ h.symm, List.drop_zero, List.drop_zero] at hl
    clear hp
    try simp only [List.length_set, List.length_append, List.length_cons, List.length_nil, List.length_map, List.length_replicate, Nat.zero_add, Nat.succ_eq_add_one, Int.cast_ofNat_Int] at *
    have h2 : decide (xs.length = ys.length) = true := by simpa using h
    clear h
    generalize allEq p xs ys = q at hl ⊢
    (refine callF_light rfl pf_slices_EqualFunc_Expr lf_slices_EqualFunc_Expr (by simp [K_slices_EqualFunc_Expr, KF.f]) ?_; rw [evF_R]; simp only [K_slices_EqualFunc_Expr, KF.f, KC.c, KL.l, Y.x, O.t', oO, KR.r, V.t, V.tL, List.map_cons, List.map_nil, kd_i64, kd_u8, kd_i32, kd_u32, kd_u64, kd_u16])
    cases q <;> (try simp (disch := omega) [-Int.natCast_add, -Int.natCast_mul, -List.drop_one, *]) <;> repeat' (first | (rw [RC_d]; split <;> (try (exfalso; omega)) <;> try simp (disch := omega) [-Int.natCast_add, -Int.natCast_mul, -List.drop_one, *]) | (rw [RG_d]; split <;> (try (exfalso; omega)) <;> try simp (disch := omega) [-Int.natCast_add, -Int.natCast_mul, -List.drop_one, *]) | (rw [RG_e]; split <;> (try (exfalso; omega)) <;> try simp (disch := omega) [-Int.natCast_add, -Int.natCast_mul, -List.drop_one, *]) | (rw [RC_b]; split <;> (try (exfalso; omega)) <;> try simp (disch := omega) [-Int.natCast_add, -Int.natCast_mul, -List.drop_one, *]) | (rw [RG_x]; split <;> (try (exfalso; omega)) <;> try simp (disch := omega) [-Int.natCast_add, -Int.natCast_mul, -List.drop_one, *]) | (rw [RG_y]; split <;> (try (exfalso; omega)) <;> try simp (disch := omega) [-Int.natCast_add, -Int.natCast_mul, -List.drop_one, *]) | (split <;> (try (exfalso; omega)) <;> try simp (disch := omega) [-Int.natCast_add, -Int.natCast_mul, -List.drop_one, *]))
  · clear hp
    (refine callF_light rfl pf_slices_EqualFunc_Expr lf_slices_EqualFunc_Expr (by simp [K_slices_EqualFunc_Expr, KF.f]) ?_; rw [evF_R]; simp only [K_slices_EqualFunc_Expr, KF.f, KC.c, KL.l, Y.x, O.t', oO, KR.r, V.t, V.tL, List.map_cons, List.map_nil, kd_i64, kd_u8, kd_i32, kd_u32, kd_u64, kd_u16])
    (try simp (disch := omega) [-Int.natCast_add, -Int.natCast_mul, -List.drop_one, *]) <;> repeat' (first | (rw [RC_d]; split <;> (try (exfalso; omega)) <;> try simp (disch := omega) [-Int.natCast_add, -Int.natCast_mul, -List.drop_one, *]) | (rw [RG_d]; split <;> (try (exfalso; omega)) <;> try simp (disch := omega) [-Int.natCast_add, -Int.natCast_mul, -List.drop_one, *]) | (rw [RG_e]; split <;> (try (exfalso; omega)) <;> try simp (disch := omega) [-Int.natCast_add, -Int.natCast_mul, -List.drop_one, *]) | (rw [RC_b]; split <;> (try (exfalso; omega)) <;> try simp (disch := omega) [-Int.natCast_add, -Int.natCast_mul, -List.drop_one, *]) | (rw [RG_x]; split <;> (try (exfalso; omega)) <;> try simp (disch := omega) [-Int.natCast_add, -Int.natCast_mul, -List.drop_one, *]) | (rw [RG_y]; split <;> (try (exfalso; omega)) <;> try simp (disch := omega) [-Int.natCast_add, -Int.natCast_mul, -List.drop_one, *]) | (split <;> (try (exfalso; omega)) <;> try simp (disch := omega) [-Int.natCast_add, -Int.natCast_mul, -List.drop_one, *]))

mutual
def equal : Ex' → Ex' → Bool
  | .mk op name _ bits vs _ args _ _ _, y => decide (op = y.op) && (!(named op || decide (op = 9)) || decide (name = y.name)) && (!decide (op = 1) || (vs == y.vs && decide (bits = y.bits))) && (decide (args.length = y.args.length) && equalL args y.args)
def equalL : List Ex' → List Ex' → Bool
  | x :: xs, y :: ys => equal x y && equalL xs ys
  | _, _ => true
end
theorem equalL_all : ∀ xs ys, equalL xs ys = allEq equal xs ys
  | x :: xs, y :: ys => by rw [equalL, equalL_all xs ys]; rfl
  | [], ys => by cases ys <;> rfl
  | x :: xs, [] => rfl
theorem equal_eq (x y : Ex') : equal x y = (decide (x.op = y.op) && (!(named x.op || decide (x.op = 9)) || decide (x.name = y.name)) && (!decide (x.op = 1) || (x.vs == y.vs && decide (x.bits = y.bits))) && (decide (x.args.length = y.args.length) && allEq equal x.args y.args)) := by
  cases x; rw [equal, equalL_all]; rfl
theorem wideL_mem : ∀ (xs : List Ex'), wideL xs = false → ∀ x ∈ xs, wide x = false
  | [], _, x, h => by cases h
  | y :: xs, h, x, hx => by
    rw [wideL, Bool.or_eq_false_iff] at h
    rcases List.mem_cons.1 hx with rfl | hx
    · exact h.1
    · exact wideL_mem xs h.2 x hx
theorem wide_arg {x : Ex'} (h : wide x = false) (i : Nat) (hi : i < x.args.length) : wide (gx x.args i) = false := by
  rw [wide_eq, wdF_eq, List.drop_zero, Bool.or_eq_false_iff] at h
  exact wideL_mem _ h.2 _ (Ex'.gx_mem _ i hi)
theorem c_equal (x : Ex') : ∀ y : Ex', (size x).1 < 2 ^ 61 → (size y).1 < 2 ^ 61 → wide x = false → wide y = false → callF E 0 f_expr_Equal [x.t, y.t] emp = some (.sc (.bool (equal x y)), emp) := by
  refine Ex'.ind2 (P := fun x => ∀ y : Ex', (size x).1 < 2 ^ 61 → (size y).1 < 2 ^ 61 → wide x = false → wide y = false → callF E 0 f_expr_Equal [x.t, y.t] emp = some (.sc (.bool (equal x y)), emp)) (fun x ih y hx hy hwx hwy => ?_) x
  have h0 : x.args.length < 2 ^ 62 := by have := args_len x; omega
  have h1 : y.args.length < 2 ^ 62 := by have := args_len y; omega
  have w1 := hwx
  have w2 := hwy
  rw [wide_eq, Bool.or_eq_false_iff, Bool.or_eq_false_iff] at w1 w2
  have b1 : x.bits.length < 2 ^ 62 := by have := w1.1.2; simp only [decide_eq_false_iff_not] at this; omega
  have b2 : y.bits.length < 2 ^ 62 := by have := w2.1.2; simp only [decide_eq_false_iff_not] at this; omega
  have h2 := c_eqf equal f_expr_Equal x.an y.an x.args y.args h0 h1 (fun i hi hj => ih i hi _ (by have := size_arg x i hi; omega) (by have := size_arg y i hj; omega) (wide_arg hwx i hi) (wide_arg hwy i hj)) rfl
  rw [equal_eq]
  clear ih w1 w2 hwx hwy
  generalize (decide (x.args.length = y.args.length) && allEq equal x.args y.args) = q at h2 ⊢
  (refine callF_light rfl pf_expr_Equal lf_expr_Equal (by simp [K_expr_Equal, KF.f]) ?_; rw [evF_R]; simp only [K_expr_Equal, KF.f, KC.c, KL.l, Y.x, O.t', oO, KR.r, V.t, V.tL, List.map_cons, List.map_nil, kd_i64, kd_u8, kd_i32, kd_u32, kd_u64, kd_u16])
  (try simp (disch := omega) [-Int.natCast_add, -Int.natCast_mul, -List.drop_one, *]) <;> repeat' (first | (rw [RC_d]; split <;> (try (exfalso; omega)) <;> try simp (disch := omega) [-Int.natCast_add, -Int.natCast_mul, -List.drop_one, *]) | (rw [RG_d]; split <;> (try (exfalso; omega)) <;> try simp (disch := omega) [-Int.natCast_add, -Int.natCast_mul, -List.drop_one, *]) | (rw [RG_e]; split <;> (try (exfalso; omega)) <;> try simp (disch := omega) [-Int.natCast_add, -Int.natCast_mul, -List.drop_one, *]) | (rw [RC_b]; split <;> (try (exfalso; omega)) <;> try simp (disch := omega) [-Int.natCast_add, -Int.natCast_mul, -List.drop_one, *]) | (rw [RG_x]; split <;> (try (exfalso; omega)) <;> try simp (disch := omega) [-Int.natCast_add, -Int.natCast_mul, -List.drop_one, *]) | (rw [RG_y]; split <;> (try (exfalso; omega)) <;> try simp (disch := omega) [-Int.natCast_add, -Int.natCast_mul, -List.drop_one, *]) | (split <;> (try (exfalso; omega)) <;> try simp (disch := omega) [-Int.natCast_add, -Int.natCast_mul, -List.drop_one, *]))
  all_goals simp_all
end Go.TM.R8

namespace Go.TM.R8
open Go Go.TM Go.Proofs
set_option linter.unusedVariables false
set_option linter.unusedSimpArgs false

/-- A vector as a tree. -/
def vecT (b : Bool) (l : List Nat) (s : Bool) : T := .agg [gs b 1 (ul l), .sc (.bool s)]
theorem l_same (b b' : Bool) (x y : List Nat) (s s' : Bool) (i : Nat) (h : y.length = x.length) (ha : x.length < 2 ^ 62) :
    Lp E 1 38 K_ref04_Same_h0 K_ref04_Same_b0.c ⟨[(2, .ptr (1, 2) 0), (3, .ptr (1, 3) 0), (5, .sc (.int .i64 i))], upd (upd emp (1, 2) (.box y_api_Vec [gs b 1 (ul x), .sc (.bool s)])) (1, 3) (.box y_api_Vec [gs b' 1 (ul y), .sc (.bool s')])⟩ =
      some (ebX (.ret, ⟨[(4, .sc (.bool false))], emp⟩) x y (upd (upd emp (1, 2) (.box y_api_Vec [gs b 1 (ul x), .sc (.bool s)])) (1, 3) (.box y_api_Vec [gs b' 1 (ul y), .sc (.bool s')])) i) := by
  fun_induction ebX (.ret, ⟨[(4, .sc (.bool false))], emp⟩) x y (upd (upd emp (1, 2) (.box y_api_Vec [gs b 1 (ul x), .sc (.bool s)])) (1, 3) (.box y_api_Vec [gs b' 1 (ul y), .sc (.bool s')])) i <;> (rw [Lp_eq]; rw (occs := .pos [1]) [K_ref04_Same_b0]; simp only [KF.f, KC.c, KL.l, Y.x, O.t', oO, KR.r, V.t, V.tL, List.map_cons, List.map_nil, kd_i64, kd_u8, kd_i32, kd_u32, kd_u64, kd_u16])
  all_goals simp (disch := omega) [-Int.natCast_add, -Int.natCast_mul, -List.drop_one, *]
@[simp] theorem c_same (b b' : Bool) (x y : List Nat) (s s' : Bool) (ha : x.length < 2 ^ 62) (hb : y.length < 2 ^ 62) : callF E 0 f_ref04_Same [.agg [gs b 1 (ul x), .sc (.bool s)], .agg [gs b' 1 (ul y), .sc (.bool s')]] emp = some (.sc (.bool (s == s' && decide (x = y))), emp) := by
  by_cases h : x.length = y.length
  · have hl := l_same b b' x y s s' 0 h.symm ha
    rw [ebX_eq _ _ _ _ _ h, List.drop_zero, List.drop_zero] at hl
    try simp only [List.length_set, List.length_append, List.length_cons, List.length_nil, List.length_map, List.length_replicate, Nat.zero_add, Nat.succ_eq_add_one, Int.cast_ofNat_Int] at *
    have h2 : decide (x.length = y.length) = true := by simpa using h
    clear h
    generalize decide (x = y) = q at hl ⊢
    (refine callF_light rfl pf_ref04_Same lf_ref04_Same (by simp [K_ref04_Same, KF.f]) ?_; rw [evF_R]; simp only [K_ref04_Same, KF.f, KC.c, KL.l, Y.x, O.t', oO, KR.r, V.t, V.tL, List.map_cons, List.map_nil, kd_i64, kd_u8, kd_i32, kd_u32, kd_u64, kd_u16])
    cases q <;> cases s <;> cases s' <;> (try simp (disch := omega) [-Int.natCast_add, -Int.natCast_mul, -List.drop_one, *]) <;> repeat' (first | (rw [RC_d]; split <;> (try (exfalso; omega)) <;> try simp (disch := omega) [-Int.natCast_add, -Int.natCast_mul, -List.drop_one, *]) | (rw [RG_d]; split <;> (try (exfalso; omega)) <;> try simp (disch := omega) [-Int.natCast_add, -Int.natCast_mul, -List.drop_one, *]) | (rw [RG_e]; split <;> (try (exfalso; omega)) <;> try simp (disch := omega) [-Int.natCast_add, -Int.natCast_mul, -List.drop_one, *]) | (rw [RC_b]; split <;> (try (exfalso; omega)) <;> try simp (disch := omega) [-Int.natCast_add, -Int.natCast_mul, -List.drop_one, *]) | (rw [RG_x]; split <;> (try (exfalso; omega)) <;> try simp (disch := omega) [-Int.natCast_add, -Int.natCast_mul, -List.drop_one, *]) | (rw [RG_y]; split <;> (try (exfalso; omega)) <;> try simp (disch := omega) [-Int.natCast_add, -Int.natCast_mul, -List.drop_one, *]) | (split <;> (try (exfalso; omega)) <;> try simp (disch := omega) [-Int.natCast_add, -Int.natCast_mul, -List.drop_one, *]))
  · have h3 : ¬ x = y := fun e => h (by rw [e])
    (refine callF_light rfl pf_ref04_Same lf_ref04_Same (by simp [K_ref04_Same, KF.f]) ?_; rw [evF_R]; simp only [K_ref04_Same, KF.f, KC.c, KL.l, Y.x, O.t', oO, KR.r, V.t, V.tL, List.map_cons, List.map_nil, kd_i64, kd_u8, kd_i32, kd_u32, kd_u64, kd_u16])
    cases s <;> cases s' <;> (try simp (disch := omega) [-Int.natCast_add, -Int.natCast_mul, -List.drop_one, *]) <;> repeat' (first | (rw [RC_d]; split <;> (try (exfalso; omega)) <;> try simp (disch := omega) [-Int.natCast_add, -Int.natCast_mul, -List.drop_one, *]) | (rw [RG_d]; split <;> (try (exfalso; omega)) <;> try simp (disch := omega) [-Int.natCast_add, -Int.natCast_mul, -List.drop_one, *]) | (rw [RG_e]; split <;> (try (exfalso; omega)) <;> try simp (disch := omega) [-Int.natCast_add, -Int.natCast_mul, -List.drop_one, *]) | (rw [RC_b]; split <;> (try (exfalso; omega)) <;> try simp (disch := omega) [-Int.natCast_add, -Int.natCast_mul, -List.drop_one, *]) | (rw [RG_x]; split <;> (try (exfalso; omega)) <;> try simp (disch := omega) [-Int.natCast_add, -Int.natCast_mul, -List.drop_one, *]) | (rw [RG_y]; split <;> (try (exfalso; omega)) <;> try simp (disch := omega) [-Int.natCast_add, -Int.natCast_mul, -List.drop_one, *]) | (split <;> (try (exfalso; omega)) <;> try simp (disch := omega) [-Int.natCast_add, -Int.natCast_mul, -List.drop_one, *]))
theorem l_requal (x y : Ex') (i : Nat) (ha : x.args.length < 2 ^ 62) (hl : y.args.length = x.args.length) (hp : ∀ i, i < x.args.length → callF E 0 f_ref08_Equal [(gx x.args i).t, (gx y.args i).t] emp = some (.sc (.bool (equal (gx x.args i) (gx y.args i))), emp)) :
    Lp E 1 69 K_ref08_Equal_h0 K_ref08_Equal_b0.c ⟨[(2, .ptr (1, 2) 0), (3, .ptr (1, 3) 0), (5, .sc (.int .i64 i))], upd (upd emp (1, 2) (.box y_api_Expr x.t.cells)) (1, 3) (.box y_api_Expr y.t.cells)⟩ =
      some (efX equal (.ret, ⟨[(4, .sc (.bool false))], emp⟩) (.exit 0, ⟨[], upd (upd emp (1, 2) (.box y_api_Expr x.t.cells)) (1, 3) (.box y_api_Expr y.t.cells)⟩) x.args y.args i) := by
  fun_induction efX equal (.ret, ⟨[(4, .sc (.bool false))], emp⟩) (.exit 0, ⟨[], upd (upd emp (1, 2) (.box y_api_Expr x.t.cells)) (1, 3) (.box y_api_Expr y.t.cells)⟩) x.args y.args i <;> (rw [Lp_eq]; rw (occs := .pos [1]) [K_ref08_Equal_b0]; simp only [KF.f, KC.c, KL.l, Y.x, O.t', oO, KR.r, V.t, V.tL, List.map_cons, List.map_nil, kd_i64, kd_u8, kd_i32, kd_u32, kd_u64, kd_u16])
  all_goals simp (disch := omega) [-Int.natCast_add, -Int.natCast_mul, -List.drop_one, *]
theorem c_requal (x : Ex') : ∀ y : Ex', (size x).1 < 2 ^ 61 → (size y).1 < 2 ^ 61 → wide x = false → wide y = false → callF E 0 f_ref08_Equal [x.t, y.t] emp = some (.sc (.bool (equal x y)), emp) := by
  refine Ex'.ind2 (P := fun x => ∀ y : Ex', (size x).1 < 2 ^ 61 → (size y).1 < 2 ^ 61 → wide x = false → wide y = false → callF E 0 f_ref08_Equal [x.t, y.t] emp = some (.sc (.bool (equal x y)), emp)) (fun x ih y hx hy hwx hwy => ?_) x
  have h0 : x.args.length < 2 ^ 62 := by have := args_len x; omega
  have h1 : y.args.length < 2 ^ 62 := by have := args_len y; omega
  have w1 := hwx
  have w2 := hwy
  rw [wide_eq, Bool.or_eq_false_iff, Bool.or_eq_false_iff] at w1 w2
  have b1 : x.bits.length < 2 ^ 62 := by have := w1.1.2; simp only [decide_eq_false_iff_not] at this; omega
  have b2 : y.bits.length < 2 ^ 62 := by have := w2.1.2; simp only [decide_eq_false_iff_not] at this; omega
  rw [equal_eq]
  by_cases h : x.args.length = y.args.length
  · have h2 := l_requal x y 0 h0 h.symm (fun i hi => ih i hi _ (by have := size_arg x i hi; omega) (by have := size_arg y i (by omega); omega) (wide_arg hwx i hi) (wide_arg hwy i (by omega)))
    rw [efX_eq _ _ _ _ _ _ h.symm, List.drop_zero, List.drop_zero] at h2
    have h3 : decide (x.args.length = y.args.length) = true := by simpa using h
    clear ih w1 w2 hwx hwy h
    generalize allEq equal x.args y.args = q at h2 ⊢
    try simp only [List.length_set, List.length_append, List.length_cons, List.length_nil, List.length_map, List.length_replicate, Nat.zero_add, Nat.succ_eq_add_one, Int.cast_ofNat_Int] at *
    (refine callF_light rfl pf_ref08_Equal lf_ref08_Equal (by simp [K_ref08_Equal, KF.f]) ?_; rw [evF_R]; simp only [K_ref08_Equal, KF.f, KC.c, KL.l, Y.x, O.t', oO, KR.r, V.t, V.tL, List.map_cons, List.map_nil, kd_i64, kd_u8, kd_i32, kd_u32, kd_u64, kd_u16])
    cases q <;> (try simp (disch := omega) [-Int.natCast_add, -Int.natCast_mul, -List.drop_one, *]) <;> repeat' (first | (rw [RC_d]; split <;> (try (exfalso; omega)) <;> try simp (disch := omega) [-Int.natCast_add, -Int.natCast_mul, -List.drop_one, *]) | (rw [RG_d]; split <;> (try (exfalso; omega)) <;> try simp (disch := omega) [-Int.natCast_add, -Int.natCast_mul, -List.drop_one, *]) | (rw [RG_e]; split <;> (try (exfalso; omega)) <;> try simp (disch := omega) [-Int.natCast_add, -Int.natCast_mul, -List.drop_one, *]) | (rw [RC_b]; split <;> (try (exfalso; omega)) <;> try simp (disch := omega) [-Int.natCast_add, -Int.natCast_mul, -List.drop_one, *]) | (rw [RG_x]; split <;> (try (exfalso; omega)) <;> try simp (disch := omega) [-Int.natCast_add, -Int.natCast_mul, -List.drop_one, *]) | (rw [RG_y]; split <;> (try (exfalso; omega)) <;> try simp (disch := omega) [-Int.natCast_add, -Int.natCast_mul, -List.drop_one, *]) | (split <;> (try (exfalso; omega)) <;> try simp (disch := omega) [-Int.natCast_add, -Int.natCast_mul, -List.drop_one, *]))
    all_goals simp_all
    all_goals (intro h1 h2; simp_all)
  · clear ih w1 w2 hwx hwy
    (refine callF_light rfl pf_ref08_Equal lf_ref08_Equal (by simp [K_ref08_Equal, KF.f]) ?_; rw [evF_R]; simp only [K_ref08_Equal, KF.f, KC.c, KL.l, Y.x, O.t', oO, KR.r, V.t, V.tL, List.map_cons, List.map_nil, kd_i64, kd_u8, kd_i32, kd_u32, kd_u64, kd_u16])
    (try simp (disch := omega) [-Int.natCast_add, -Int.natCast_mul, -List.drop_one, *]) <;> repeat' (first | (rw [RC_d]; split <;> (try (exfalso; omega)) <;> try simp (disch := omega) [-Int.natCast_add, -Int.natCast_mul, -List.drop_one, *]) | (rw [RG_d]; split <;> (try (exfalso; omega)) <;> try simp (disch := omega) [-Int.natCast_add, -Int.natCast_mul, -List.drop_one, *]) | (rw [RG_e]; split <;> (try (exfalso; omega)) <;> try simp (disch := omega) [-Int.natCast_add, -Int.natCast_mul, -List.drop_one, *]) | (rw [RC_b]; split <;> (try (exfalso; omega)) <;> try simp (disch := omega) [-Int.natCast_add, -Int.natCast_mul, -List.drop_one, *]) | (rw [RG_x]; split <;> (try (exfalso; omega)) <;> try simp (disch := omega) [-Int.natCast_add, -Int.natCast_mul, -List.drop_one, *]) | (rw [RG_y]; split <;> (try (exfalso; omega)) <;> try simp (disch := omega) [-Int.natCast_add, -Int.natCast_mul, -List.drop_one, *]) | (split <;> (try (exfalso; omega)) <;> try simp (disch := omega) [-Int.natCast_add, -Int.natCast_mul, -List.drop_one, *]))
    all_goals simp_all
end Go.TM.R8

namespace Go.TM.R8
open Go Go.TM Go.Proofs
set_option linter.unusedVariables false
set_option linter.unusedSimpArgs false

abbrev Nm := List (List UInt8)
def strT (n : List UInt8) : T := .sc (str n)
@[simp] theorem strT_closed (l : Nm) : closedL (ml strT l) = true := ml_closed strT (fun x => rfl) l
theorem strT_app (l : Nm) (n : List UInt8) : ml strT l ++ [.sc (str n)] = ml strT (l ++ [n]) := by simp [ml, strT]
theorem strT_sing (n : List UInt8) : [.sc (str n)] = ml strT [n] := rfl
theorem strT_one (n : List UInt8) : [T.sc (str n)].isEmpty = false := rfl
attribute [simp] strT_app
def isIn (l : Nm) (n : List UInt8) : Bool := l.any fun m => decide (m = n)
/-- One name more, if it is new; the second number counts. -/
def addN (o : Nat) (n : List UInt8) (p : Nm × Nat) : Nm × Nat := if named o = true then (if isIn p.1 n = true then p else (p.1 ++ [n], p.2 + 1)) else p
mutual
def nms : Ex' → Nm × Nat → Nm × Nat
  | .mk op name _ _ _ _ args _ _ _, p => nmsL args (addN op name p)
def nmsL : List Ex' → Nm × Nat → Nm × Nat
  | [], p => p
  | x :: xs, p => nmsL xs (nms x p)
end
theorem nms_eq (x : Ex') (p : Nm × Nat) : nms x p = nmsL x.args (addN x.op x.name p) := by cases x; rw [nms]; rfl
def nmF (xs : List Ex') (p : Nm × Nat) (i : Nat) : Nm × Nat := if i < xs.length then nmF xs (nms (gx xs i) p) (i + 1) else p
  termination_by xs.length - i
theorem nmF_eq (xs : List Ex') (p : Nm × Nat) (i : Nat) : nmF xs p i = nmsL (xs.drop i) p := by
  fun_induction nmF xs p i with
  | case1 p i h ih =>
    have : gx xs i = xs[i] := by simp [gx, h]
    rw [ih, List.drop_eq_getElem_cons h, nmsL, this]
  | case2 p i h => rw [List.drop_eq_nil_of_le (by omega)]; rfl
theorem addN_len (o : Nat) (n : List UInt8) (p : Nm × Nat) : p.1.length ≤ (addN o n p).1.length ∧ (addN o n p).1.length ≤ p.1.length + 1 := by
  unfold addN; split
  · split <;> simp
  · simp
theorem nms_len : ∀ (x : Ex') (p : Nm × Nat), p.1.length ≤ (nms x p).1.length ∧ (nms x p).1.length ≤ p.1.length + (size x).1 := by
  refine Ex'.ind3 fun x ih p => ?_
  have key : ∀ (xs : List Ex'), (∀ y ∈ xs, ∀ p, p.1.length ≤ (nms y p).1.length ∧ (nms y p).1.length ≤ p.1.length + (size y).1) → ∀ p, p.1.length ≤ (nmsL xs p).1.length ∧ (nmsL xs p).1.length ≤ p.1.length + (sizeL xs).1 := by
    intro xs
    induction xs with
    | nil => intro _ p; simp [nmsL, sizeL]
    | cons y ys h =>
      intro hh p
      have h1 := hh y (by simp) p
      have h2 := h (fun z hz => hh z (by simp [hz])) (nms y p)
      simp only [nmsL, sizeL]; omega
  have h1 := key x.args ih (addN x.op x.name p)
  have h2 := addN_len x.op x.name p
  rw [nms_eq, size_eq]; simp only []; omega
/-- The names do not hang on the count. -/
theorem addN_fst (o : Nat) (n : List UInt8) (l : Nm) (g g' : Nat) : (addN o n (l, g)).1 = (addN o n (l, g')).1 := by
  unfold addN; split
  · split <;> rfl
  · rfl
theorem nms_fst : ∀ (x : Ex') (p q : Nm × Nat), p.1 = q.1 → (nms x p).1 = (nms x q).1 := by
  refine Ex'.ind3 fun x ih p q h => ?_
  have key : ∀ (xs : List Ex'), (∀ y ∈ xs, ∀ p q, p.1 = q.1 → (nms y p).1 = (nms y q).1) → ∀ p q : Nm × Nat, p.1 = q.1 → (nmsL xs p).1 = (nmsL xs q).1 := by
    intro xs
    induction xs with
    | nil => intro _ p q h; simpa [nmsL] using h
    | cons y ys h => intro hh p q hpq; simp only [nmsL]; exact h (fun z hz => hh z (by simp [hz])) _ _ (hh y (by simp) p q hpq)
  rw [nms_eq, nms_eq]
  refine key _ ih _ _ ?_
  obtain ⟨l, g⟩ := p
  obtain ⟨l', g'⟩ := q
  simp only at h
  subst h
  exact addN_fst _ _ _ _ _

/-! ### is it there -/
def hsF (l : Nm) (n : List UInt8) (h : Bool) (i : Nat) : Bool := if i < l.length then hsF l n (bif h then true else decide (gx l i = n)) (i + 1) else h
  termination_by l.length - i
theorem hsF_eq (l : Nm) (n : List UInt8) (h : Bool) (i : Nat) : hsF l n h i = (h || isIn (l.drop i) n) := by
  fun_induction hsF l n h i with
  | case1 h i hi ih =>
    have : gx l i = l[i] := by simp [gx, hi]
    rw [ih, List.drop_eq_getElem_cons hi, this]
    unfold isIn
    rw [List.any_cons]; cases h <;> simp
  | case2 h i hi => rw [List.drop_eq_nil_of_le (by omega)]; simp [isIn]
theorem l_has (x : Ex') (l : Nm) (d g : Nat) (h : Bool) (i : Nat) (S : Store) (hS : trunc 1 S = S) (hn : ∀ d, S (2, d) = none) (hm : ∀ kl S0, maskT 2 kl S0 S = S) (ht : trunc 2 S = S) (hl : l.length < 1000000) :
    Lp E 2 49 K_ref08_names_h0 K_ref08_names_b0.c ⟨[(0, .own (1, d) g 0 l.length), (3, .ptr (2, 3) 0), (5, .sc (.bool h)), (6, .sc (.int .i64 i))], upd (upd S (1, d) (.arr false g 1 y_string (ml strT l))) (2, 3) (.box y_api_Expr x.t.cells)⟩ =
      some (.exit 0, ⟨[(0, .own (1, d) g 0 l.length), (3, .ptr (2, 3) 0), (5, .sc (.bool (hsF l x.name h i)))], upd (upd S (1, d) (.arr false g 1 y_string (ml strT l))) (2, 3) (.box y_api_Expr x.t.cells)⟩) := by
  fun_induction hsF l x.name h i
  case case1 h i hi ih =>
    (rw [Lp_eq]; rw (occs := .pos [1]) [K_ref08_names_b0]; simp only [KF.f, KC.c, KL.l, Y.x, O.t', oO, KR.r, V.t, V.tL, List.map_cons, List.map_nil, kd_i64, kd_u8, kd_i32, kd_u32, kd_u64, kd_u16])
    cases h <;> simp only [cond_false, cond_true] at ih <;> simp (disch := omega) [-Int.natCast_add, -Int.natCast_mul, -List.drop_one, strT, *]
  case case2 h i hi =>
    (rw [Lp_eq]; rw (occs := .pos [1]) [K_ref08_names_b0]; simp only [KF.f, KC.c, KL.l, Y.x, O.t', oO, KR.r, V.t, V.tL, List.map_cons, List.map_nil, kd_i64, kd_u8, kd_i32, kd_u32, kd_u64, kd_u16])
    simp (disch := omega) [-Int.natCast_add, -Int.natCast_mul, -List.drop_one, *]
end Go.TM.R8

namespace Go.TM.R8
open Go Go.TM Go.Proofs
set_option linter.unusedVariables false
set_option linter.unusedSimpArgs false

/-- A row of names behind a store. -/
noncomputable def rowN (S : Store) (d g : Nat) (l : Nm) : Store := upd S (1, d) (.arr false g 1 y_string (ml strT l))
/-- What is known of a call that makes the row at (1, d) longer. -/
def NmB (x : Ex') : Prop := ∀ (p : Nm × Nat) (d : Nat) (S : Store), trunc 1 S = S → p.1.length + (size x).1 < 1000000 →
  callF E 1 f_ref08_names [.own (1, d) p.2 0 p.1.length, x.t] (upd S (1, d) (.arr false p.2 1 y_string (ml strT p.1))) =
    some (.own (1, d) (nms x p).2 0 (nms x p).1.length, upd S (1, d) (.arr false (nms x p).2 1 y_string (ml strT (nms x p).1)))

theorem l_namesB (x : Ex') (p : Nm × Nat) (d i : Nat) (S : Store) (hS : trunc 1 S = S) (hn : ∀ d, S (2, d) = none) (hm : ∀ kl S0, maskT 2 kl S0 S = S) (ha : x.args.length < 2 ^ 62)
    (hb : p.1.length + (sizeL (x.args.drop i)).1 < 1000000) (ih : ∀ i, i < x.args.length → NmB (gx x.args i)) :
    Lp E 2 49 K_ref08_names_h1 K_ref08_names_b1.c ⟨[(0, .own (1, d) p.2 0 p.1.length), (3, .ptr (2, 3) 0), (7, .sc (.int .i64 i))], upd (upd S (1, d) (.arr false p.2 1 y_string (ml strT p.1))) (2, 3) (.box y_api_Expr x.t.cells)⟩ =
      some (.exit 2, ⟨[(0, .own (1, d) (nmF x.args p i).2 0 (nmF x.args p i).1.length)], upd (upd S (1, d) (.arr false (nmF x.args p i).2 1 y_string (ml strT (nmF x.args p i).1))) (2, 3) (.box y_api_Expr x.t.cells)⟩) := by
  fun_induction nmF x.args p i
  case case1 p i h ih1 =>
    have e : gx x.args i = x.args[i] := by simp [gx, h]
    rw [List.drop_eq_getElem_cons h, sizeL, ← e] at hb
    simp only [] at hb
    have hl := nms_len (gx x.args i) p
    have hc := ih i h p d S hS (by omega)
    have ih1 := ih1 (by omega)
    clear ih hl hb e
    (rw [Lp_eq]; rw (occs := .pos [1]) [K_ref08_names_b1]; simp only [KF.f, KC.c, KL.l, Y.x, O.t', oO, KR.r, V.t, V.tL, List.map_cons, List.map_nil, kd_i64, kd_u8, kd_i32, kd_u32, kd_u64, kd_u16])
    simp (disch := omega) [-Int.natCast_add, -Int.natCast_mul, -List.drop_one, *]
  case case2 p i h =>
    clear ih
    (rw [Lp_eq]; rw (occs := .pos [1]) [K_ref08_names_b1]; simp only [KF.f, KC.c, KL.l, Y.x, O.t', oO, KR.r, V.t, V.tL, List.map_cons, List.map_nil, kd_i64, kd_u8, kd_i32, kd_u32, kd_u64, kd_u16])
    simp (disch := omega) [-Int.natCast_add, -Int.natCast_mul, -List.drop_one, *]
theorem isIn_nil (n : List UInt8) : isIn [] n = false := rfl
theorem nmB (x : Ex') : NmB x := by
  refine Ex'.ind2 (P := NmB) (fun x ih p d S hS hb => ?_) x
  have hn : ∀ d, S (2, d) = none := fun d => low_none hS 2 d (by omega)
  have hm : ∀ kl S0, maskT 2 kl S0 S = S := fun kl S0 => low_mask hS 2 (by omega) kl S0
  have ht : trunc 2 S = S := low_trunc hS 2 (by omega)
  have ha : x.args.length < 2 ^ 62 := by have := args_len x; omega
  have h1 := l_has x p.1 d p.2 false 0 S hS hn hm ht (by omega)
  rw [hsF_eq, List.drop_zero, Bool.false_or] at h1
  have h2 : ∀ q : Nm × Nat, q.1.length ≤ p.1.length + 1 → Lp E 2 49 K_ref08_names_h1 K_ref08_names_b1.c ⟨[(0, .own (1, d) q.2 0 q.1.length), (3, .ptr (2, 3) 0), (7, .sc (.int .i64 (0 : Nat)))], upd (upd S (1, d) (.arr false q.2 1 y_string (ml strT q.1))) (2, 3) (.box y_api_Expr x.t.cells)⟩ =
      some (.exit 2, ⟨[(0, .own (1, d) (nmsL x.args q).2 0 (nmsL x.args q).1.length)], upd (upd S (1, d) (.arr false (nmsL x.args q).2 1 y_string (ml strT (nmsL x.args q).1))) (2, 3) (.box y_api_Expr x.t.cells)⟩) := by
    intro q hq
    have h := l_namesB x q d 0 S hS hn hm ha (by rw [size_eq] at hb; simp only [List.drop_zero] at hb ⊢; omega) ih
    rw [nmF_eq, List.drop_zero] at h
    exact h
  have hlen : p.1.length < 1000000 := by omega
  have hlen2 : p.1.length ≤ 999999999 := by omega
  rw [nms_eq]
  unfold addN
  clear ih hb
  by_cases hN : named x.op = true
  · simp only [hN, if_true]
    cases hI : isIn p.1 x.name with
    | true =>
      rw [hI] at h1
      have h2 := h2 p (by omega)
      simp only [if_true]
      try simp only [List.length_set, List.length_append, List.length_cons, List.length_nil, List.length_map, List.length_replicate, Nat.zero_add, Nat.succ_eq_add_one, Int.cast_ofNat_Int] at *
      (refine callF_light rfl pf_ref08_names lf_ref08_names (by simp [K_ref08_names, KF.f]) ?_; rw [evF_R]; simp only [K_ref08_names, KF.f, KC.c, KL.l, Y.x, O.t', oO, KR.r, V.t, V.tL, List.map_cons, List.map_nil, kd_i64, kd_u8, kd_i32, kd_u32, kd_u64, kd_u16])
      simp (disch := omega) [-Int.natCast_add, -Int.natCast_mul, -List.drop_one, *]
    | false =>
      rw [hI] at h1
      have h2 := h2 (p.1 ++ [x.name], p.2 + 1) (by simp)
      simp only [Bool.false_eq_true, if_false]
      try simp only [List.length_set, List.length_append, List.length_cons, List.length_nil, List.length_map, List.length_replicate, Nat.zero_add, Nat.succ_eq_add_one, Int.cast_ofNat_Int] at *
      (refine callF_light rfl pf_ref08_names lf_ref08_names (by simp [K_ref08_names, KF.f]) ?_; rw [evF_R]; simp only [K_ref08_names, KF.f, KC.c, KL.l, Y.x, O.t', oO, KR.r, V.t, V.tL, List.map_cons, List.map_nil, kd_i64, kd_u8, kd_i32, kd_u32, kd_u64, kd_u16])
      simp (disch := omega) [-Int.natCast_add, -Int.natCast_mul, -List.drop_one, strT, *]
  · have h2 := h2 p (by omega)
    simp only [hN, if_false]
    try simp only [List.length_set, List.length_append, List.length_cons, List.length_nil, List.length_map, List.length_replicate, Nat.zero_add, Nat.succ_eq_add_one, Int.cast_ofNat_Int] at *
    (refine callF_light rfl pf_ref08_names lf_ref08_names (by simp [K_ref08_names, KF.f]) ?_; rw [evF_R]; simp only [K_ref08_names, KF.f, KC.c, KL.l, Y.x, O.t', oO, KR.r, V.t, V.tL, List.map_cons, List.map_nil, kd_i64, kd_u8, kd_i32, kd_u32, kd_u64, kd_u16])
    simp (disch := omega) [-Int.natCast_add, -Int.natCast_mul, -List.drop_one, *]
end Go.TM.R8

namespace Go.TM.R8
open Go Go.TM Go.Proofs
set_option linter.unusedVariables false
set_option linter.unusedSimpArgs false

/-! ### is it there -/
def ixN (n : List UInt8) (l : Nm) (i : Nat) : Int := if i < l.length then (if n = gx l i then (i : Int) else ixN n l (i + 1)) else -1
  termination_by l.length - i
def ixNX (n : List UInt8) (l : Nm) (i : Nat) : Ex × St := if i < l.length then (if n = gx l i then (.ret, ⟨[(4, .sc (.int .i64 i))], emp⟩) else ixNX n l (i + 1)) else (.exit 0, ⟨[], emp⟩)
  termination_by l.length - i
theorem l_ixN (n : List UInt8) (b : Bool) (l : Nm) (i : Nat) (ha : l.length < 2 ^ 62) :
    Lp E 1 19 K_slices_Index_string_h0 K_slices_Index_string_b0.c ⟨[(0, gs b 1 (ml strT l)), (1, .sc (str n)), (7, .sc (.int .i64 l.length)), (8, .sc (.int .i64 i))], emp⟩ = some (ixNX n l i) := by
  fun_induction ixNX n l i <;> (rw [Lp_eq]; rw (occs := .pos [1]) [K_slices_Index_string_b0]; simp only [KF.f, KC.c, KL.l, Y.x, O.t', oO, KR.r, V.t, V.tL, List.map_cons, List.map_nil, kd_i64, kd_u8, kd_i32, kd_u32, kd_u64, kd_u16])
  all_goals simp (disch := omega) [-Int.natCast_add, -Int.natCast_mul, -List.drop_one, strT, *]
theorem c_ixN (n : List UInt8) (b : Bool) (l : Nm) (ha : l.length < 2 ^ 62) : callF E 0 f_slices_Index_string [gs b 1 (ml strT l), .sc (str n)] emp = some (.sc (.int .i64 (ixN n l 0)), emp) := by
  have h := l_ixN n b l 0 ha
  have key : ∀ i, (∃ k : Nat, ixN n l i = k ∧ ixNX n l i = (.ret, ⟨[(4, .sc (.int .i64 k))], emp⟩)) ∨ (ixN n l i = -1 ∧ ixNX n l i = (.exit 0, ⟨[], emp⟩)) := by
    intro i
    fun_induction ixN n l i with
    | case1 i h1 h2 => exact .inl ⟨i, rfl, by rw [ixNX, if_pos h1, if_pos h2]⟩
    | case2 i h1 h2 ih => rw [ixNX, if_pos h1, if_neg h2]; exact ih
    | case3 i h1 => exact .inr ⟨rfl, by rw [ixNX, if_neg h1]⟩
  try simp only [List.length_set, List.length_append, List.length_cons, List.length_nil, List.length_map, List.length_replicate, Nat.zero_add, Nat.succ_eq_add_one, Int.cast_ofNat_Int] at *
  rcases key 0 with ⟨k, h1, h2⟩ | ⟨h1, h2⟩ <;> rw [h2] at h <;> rw [h1] <;> clear h1 h2 key <;> (refine callF_light rfl pf_slices_Index_string lf_slices_Index_string (by simp [K_slices_Index_string, KF.f]) ?_; rw [evF_R]; simp only [K_slices_Index_string, KF.f, KC.c, KL.l, Y.x, O.t', oO, KR.r, V.t, V.tL, List.map_cons, List.map_nil, kd_i64, kd_u8, kd_i32, kd_u32, kd_u64, kd_u16]) <;> simp (disch := omega) [-Int.natCast_add, -Int.natCast_mul, -List.drop_one, *]
theorem ixN_any (n : List UInt8) (l : Nm) (i : Nat) : decide (0 ≤ ixN n l i) = isIn (l.drop i) n := by
  fun_induction ixN n l i with
  | case1 i h1 h2 =>
    rw [List.drop_eq_getElem_cons h1]
    have : gx l i = l[i] := by simp [gx, h1]
    rw [this] at h2
    unfold isIn
    rw [List.any_cons, ← h2]; simp
  | case2 i h1 h2 ih =>
    rw [List.drop_eq_getElem_cons h1, ih]
    have : gx l i = l[i] := by simp [gx, h1]
    rw [this] at h2
    have h3 : decide (l[i] = n) = false := by simpa using fun e => h2 e.symm
    unfold isIn
    rw [List.any_cons, h3, Bool.false_or]
  | case3 i h1 => rw [List.drop_eq_nil_of_le (by omega)]; rfl
@[simp] theorem c_containsN (n : List UInt8) (b : Bool) (l : Nm) (ha : l.length < 2 ^ 62) : callF E 0 f_slices_Contains_string [gs b 1 (ml strT l), .sc (str n)] emp = some (.sc (.bool (isIn l n)), emp) := by
  have h := c_ixN n b l ha
  have h2 := ixN_any n l 0
  rw [List.drop_zero] at h2
  rw [← h2]
  clear h2
  (refine callF_light rfl pf_slices_Contains_string lf_slices_Contains_string (by simp [K_slices_Contains_string, KF.f]) ?_; rw [evF_R]; simp only [K_slices_Contains_string, KF.f, KC.c, KL.l, Y.x, O.t', oO, KR.r, V.t, V.tL, List.map_cons, List.map_nil, kd_i64, kd_u8, kd_i32, kd_u32, kd_u64, kd_u16])
  simp (disch := omega) [-Int.natCast_add, -Int.natCast_mul, -List.drop_one, *]
@[simp] theorem c_containsL (n : List UInt8) (l : Nm) (ha : l.length < 2 ^ 62) : callF E 0 f_slices_Contains_string [.lst 1 (ml strT l), .sc (str n)] emp = some (.sc (.bool (isIn l n)), emp) := by
  have := c_containsN n false l ha
  rwa [gs_false] at this
@[simp] theorem c_containsE (n : List UInt8) : callF E 0 f_slices_Contains_string [.sc (.slice none 0 0), .sc (str n)] emp = some (.sc (.bool false), emp) := by
  have := c_containsN n true [] (by simp)
  rw [show ml strT [] = [] from rfl, gs_true_nil] at this
  exact this

/-! ### the store while the tree is walked -/
def cloN : T := .clo f_expr_Names_1 [.ptr (1, 3) 0, .ptr (1, 4) 0]
open Classical in
noncomputable def stN (S : Store) (l : Nm) : Store := if l = [] then upd (upd S (1, 3) (.box y_s_string [.sc (.slice none 0 0)])) (1, 4) (.box 33 [cloN])
  else upd (upd (upd S (1, 3) (.box y_s_string [.own (1, 7000) (l.length - 1) 0 l.length])) (1, 4) (.box 33 [cloN])) (1, 7000) (.arr false (l.length - 1) 1 y_string (ml strT l))
theorem stN_clo (S : Store) (l : Nm) : stN S l (1, 4) = some (.box 33 [cloN]) := by
  unfold stN; split <;> simp [upd_ap]
theorem stN_low (S : Store) (l : Nm) (hS : trunc 1 S = S) : trunc 1 (stN S l) = stN S l := by
  unfold stN; split <;> simp [hS]
theorem lay_low1 (S1 S2 : Store) (h1 : trunc 1 S1 = S1) (h2 : trunc 1 S2 = S2) : lay 1 S1 S2 = S1 := by
  funext l
  unfold lay
  by_cases hl : l.1 ≤ 1
  · rw [Nat.ble_eq_true_of_le hl]; rfl
  · have : Nat.ble l.1 1 = false := by
      cases hb : Nat.ble l.1 1 with
      | false => rfl
      | true => exact absurd (Nat.le_of_ble_eq_true hb) hl
    rw [this, ← h1, ← h2]
    unfold trunc
    rw [if_neg hl, if_neg hl]; rfl
def nmsl (x : Ex') (l : Nm) : Nm := (nms x (l, 0)).1
def nmslF (xs : List Ex') (l : Nm) (i : Nat) : Nm := if i < xs.length then nmslF xs (nmsl (gx xs i) l) (i + 1) else l
  termination_by xs.length - i
def NmC (x : Ex') : Prop := ∀ (l : Nm) (S : Store), trunc 1 S = S → S (1, 7000) = none → l.length + (size x).1 < 1000000 →
  callF E 1 f_expr_Names_1 [x.t, .ptr (1, 3) 0, .ptr (1, 4) 0] (stN S l) = some (.tup [], stN S (nmsl x l))
theorem l_namesC (x : Ex') (l : Nm) (i : Nat) (S : Store) (hS : trunc 1 S = S) (h7 : S (1, 7000) = none) (ha : x.args.length < 2 ^ 62)
    (hb : l.length + (sizeL (x.args.drop i)).1 < 1000000) (ih : ∀ i, i < x.args.length → NmC (gx x.args i)) :
    Lp E 2 32 K_expr_Names_1_h0 K_expr_Names_1_b0.c ⟨[(2, .ptr (1, 4) 0), (22, gs x.an 8 (ml Ex'.t x.args)), (23, .sc (.int .i64 x.args.length)), (24, .sc (.int .i64 i))], upd (stN S l) (2, 3) (.box y_api_Expr x.t.cells)⟩ =
      some (.exit 0, ⟨[], upd (stN S (nmslF x.args l i)) (2, 3) (.box y_api_Expr x.t.cells)⟩) := by
  fun_induction nmslF x.args l i
  case case1 l i h ih1 =>
    have e : gx x.args i = x.args[i] := by simp [gx, h]
    rw [List.drop_eq_getElem_cons h, sizeL, ← e] at hb
    simp only [] at hb
    have hl := nms_len (gx x.args i) (l, 0)
    have hl2 : (nmsl (gx x.args i) l).length ≤ l.length + (size (gx x.args i)).1 := hl.2
    have hc := ih i h l S hS h7 (by omega)
    have ih1 := ih1 (by omega)
    have s1 := stN_low S l hS
    have s2 := stN_low S (nmsl (gx x.args i) l) hS
    have s3 : ∀ d, stN S l (2, d) = none := fun d => low_none s1 2 d (by omega)
    have s4 : ∀ kl S0, maskT 2 kl S0 (stN S (nmsl (gx x.args i) l)) = stN S (nmsl (gx x.args i) l) := fun kl S0 => low_mask s2 2 (by omega) kl S0
    have s5 := stN_clo S l
    have s6 := lay_low1 _ _ s2 s1
    clear ih hl hl2 hb e
    (rw [Lp_eq]; rw (occs := .pos [1]) [K_expr_Names_1_b0]; simp only [KF.f, KC.c, KL.l, Y.x, O.t', oO, KR.r, V.t, V.tL, List.map_cons, List.map_nil, kd_i64, kd_u8, kd_i32, kd_u32, kd_u64, kd_u16])
    simp (disch := omega) [-Int.natCast_add, -Int.natCast_mul, -List.drop_one, cloN, *]
  case case2 l i h =>
    clear ih
    (rw [Lp_eq]; rw (occs := .pos [1]) [K_expr_Names_1_b0]; simp only [KF.f, KC.c, KL.l, Y.x, O.t', oO, KR.r, V.t, V.tL, List.map_cons, List.map_nil, kd_i64, kd_u8, kd_i32, kd_u32, kd_u64, kd_u16])
    simp (disch := omega) [-Int.natCast_add, -Int.natCast_mul, -List.drop_one, *]
end Go.TM.R8

namespace Go.TM.R8
open Go Go.TM Go.Proofs
set_option linter.unusedVariables false
set_option linter.unusedSimpArgs false

theorem nmslF_eq (xs : List Ex') (l : Nm) (i : Nat) : nmslF xs l i = (nmsL (xs.drop i) (l, 0)).1 := by
  fun_induction nmslF xs l i with
  | case1 l i h ih =>
    have : gx xs i = xs[i] := by simp [gx, h]
    rw [ih, List.drop_eq_getElem_cons h, nmsL, ← this]
    have key : ∀ (ys : List Ex') (p q : Nm × Nat), p.1 = q.1 → (nmsL ys p).1 = (nmsL ys q).1 := by
      intro ys
      induction ys with
      | nil => intro p q h; simpa [nmsL] using h
      | cons y ys h => intro p q hpq; simp only [nmsL]; exact h _ _ (nms_fst y p q hpq)
    exact key _ _ _ rfl
  | case2 l i h => rw [List.drop_eq_nil_of_le (by omega)]; rfl
theorem nmsl_eq (x : Ex') (l : Nm) : nmsl x l = nmslF x.args (if named x.op = true then (if isIn l x.name = true then l else l ++ [x.name]) else l) 0 := by
  rw [nmslF_eq, List.drop_zero]
  unfold nmsl
  rw [nms_eq]
  have key : ∀ (ys : List Ex') (p q : Nm × Nat), p.1 = q.1 → (nmsL ys p).1 = (nmsL ys q).1 := by
    intro ys
    induction ys with
    | nil => intro p q h; simpa [nmsL] using h
    | cons y ys h => intro p q hpq; simp only [nmsL]; exact h _ _ (nms_fst y p q hpq)
  refine key _ _ _ ?_
  unfold addN
  split
  · split <;> rfl
  · rfl
theorem stN_nil (S : Store) : stN S [] = upd (upd S (1, 3) (.box y_s_string [.sc (.slice none 0 0)])) (1, 4) (.box 33 [cloN]) := by unfold stN; rw [if_pos rfl]
theorem stN_ne (S : Store) (l : Nm) (h : l ≠ []) : stN S l = upd (upd (upd S (1, 3) (.box y_s_string [.own (1, 7000) (l.length - 1) 0 l.length])) (1, 4) (.box 33 [cloN])) (1, 7000) (.arr false (l.length - 1) 1 y_string (ml strT l)) := by unfold stN; rw [if_neg h]
theorem stN_app (S : Store) (l : Nm) (n : List UInt8) : stN S (l ++ [n]) = upd (upd (upd S (1, 3) (.box y_s_string [.own (1, 7000) l.length 0 (l.length + 1)])) (1, 4) (.box 33 [cloN])) (1, 7000) (.arr false l.length 1 y_string (ml strT (l ++ [n]))) := by
  rw [stN_ne S (l ++ [n]) (by simp)]; simp
theorem nmC (x : Ex') : NmC x := by
  refine Ex'.ind2 (P := NmC) (fun x ih l S hS h7 hb => ?_) x
  have hn : ∀ d, S (2, d) = none := fun d => low_none hS 2 d (by omega)
  have hm : ∀ kl S0, maskT 2 kl S0 S = S := fun kl S0 => low_mask hS 2 (by omega) kl S0
  have ha : x.args.length < 2 ^ 62 := by have := args_len x; omega
  have h2 : ∀ q : Nm, q.length ≤ l.length + 1 → Lp E 2 32 K_expr_Names_1_h0 K_expr_Names_1_b0.c ⟨[(2, .ptr (1, 4) 0), (22, gs x.an 8 (ml Ex'.t x.args)), (23, .sc (.int .i64 x.args.length)), (24, .sc (.int .i64 (0 : Nat)))], upd (stN S q) (2, 3) (.box y_api_Expr x.t.cells)⟩ =
      some (.exit 0, ⟨[], upd (stN S (nmslF x.args q 0)) (2, 3) (.box y_api_Expr x.t.cells)⟩) := fun q hq =>
    l_namesC x q 0 S hS h7 ha (by rw [size_eq] at hb; simp only [List.drop_zero] at hb ⊢; omega) ih
  have low : ∀ q : Nm, trunc 1 (stN S q) = stN S q := fun q => stN_low S q hS
  have hlen : l.length < 1000000 := by omega
  have hlen2 : l.length ≤ 999999999 := by omega
  rw [nmsl_eq]
  clear ih hb
  by_cases hN : named x.op = true
  · simp only [hN, if_true]
    by_cases hl : l = []
    · subst hl
      have h2 := h2 ([] ++ [x.name]) (by simp)
      rw [stN_app, show ml strT ([] ++ [x.name]) = [T.sc (str x.name)] from rfl] at h2
      simp only [isIn_nil, Bool.false_eq_true, if_false]
      rw [stN_nil]
      unfold cloN at h2 ⊢
      try simp only [List.length_set, List.length_append, List.length_cons, List.length_nil, List.length_map, List.length_replicate, Nat.zero_add, Nat.succ_eq_add_one, Int.cast_ofNat_Int] at *
      (refine callF_light rfl pf_expr_Names_1 lf_expr_Names_1 (by simp [K_expr_Names_1, KF.f]) ?_; rw [evF_R]; simp only [K_expr_Names_1, KF.f, KC.c, KL.l, Y.x, O.t', oO, KR.r, V.t, V.tL, List.map_cons, List.map_nil, kd_i64, kd_u8, kd_i32, kd_u32, kd_u64, kd_u16])
      simp (disch := omega) [-Int.natCast_add, -Int.natCast_mul, -List.drop_one, strT, *]
    · have hl0 : 0 < l.length := List.length_pos_iff.2 hl
      rw [stN_ne S l hl]
      cases hI : isIn l x.name with
      | true =>
        have h2 := h2 l (by omega)
        rw [stN_ne S l hl] at h2
        simp only [if_true]
        unfold cloN at h2 ⊢
        try simp only [List.length_set, List.length_append, List.length_cons, List.length_nil, List.length_map, List.length_replicate, Nat.zero_add, Nat.succ_eq_add_one, Int.cast_ofNat_Int] at *
        (refine callF_light rfl pf_expr_Names_1 lf_expr_Names_1 (by simp [K_expr_Names_1, KF.f]) ?_; rw [evF_R]; simp only [K_expr_Names_1, KF.f, KC.c, KL.l, Y.x, O.t', oO, KR.r, V.t, V.tL, List.map_cons, List.map_nil, kd_i64, kd_u8, kd_i32, kd_u32, kd_u64, kd_u16])
        simp (disch := omega) [-Int.natCast_add, -Int.natCast_mul, -List.drop_one, *]
      | false =>
        have h2 := h2 (l ++ [x.name]) (by simp)
        rw [stN_app] at h2
        simp only [Bool.false_eq_true, if_false]
        unfold cloN at h2 ⊢
        try simp only [List.length_set, List.length_append, List.length_cons, List.length_nil, List.length_map, List.length_replicate, Nat.zero_add, Nat.succ_eq_add_one, Int.cast_ofNat_Int] at *
        (refine callF_light rfl pf_expr_Names_1 lf_expr_Names_1 (by simp [K_expr_Names_1, KF.f]) ?_; rw [evF_R]; simp only [K_expr_Names_1, KF.f, KC.c, KL.l, Y.x, O.t', oO, KR.r, V.t, V.tL, List.map_cons, List.map_nil, kd_i64, kd_u8, kd_i32, kd_u32, kd_u64, kd_u16])
        simp (disch := omega) [-Int.natCast_add, -Int.natCast_mul, -List.drop_one, strT, *]
  · have h2 := h2 l (by omega)
    simp only [hN, if_false]
    by_cases hl : l = []
    · subst hl
      rw [stN_nil] at h2 ⊢
      unfold cloN at h2 ⊢
      try simp only [List.length_set, List.length_append, List.length_cons, List.length_nil, List.length_map, List.length_replicate, Nat.zero_add, Nat.succ_eq_add_one, Int.cast_ofNat_Int] at *
      (refine callF_light rfl pf_expr_Names_1 lf_expr_Names_1 (by simp [K_expr_Names_1, KF.f]) ?_; rw [evF_R]; simp only [K_expr_Names_1, KF.f, KC.c, KL.l, Y.x, O.t', oO, KR.r, V.t, V.tL, List.map_cons, List.map_nil, kd_i64, kd_u8, kd_i32, kd_u32, kd_u64, kd_u16])
      simp (disch := omega) [-Int.natCast_add, -Int.natCast_mul, -List.drop_one, *]
    · rw [stN_ne S l hl] at h2 ⊢
      unfold cloN at h2 ⊢
      try simp only [List.length_set, List.length_append, List.length_cons, List.length_nil, List.length_map, List.length_replicate, Nat.zero_add, Nat.succ_eq_add_one, Int.cast_ofNat_Int] at *
      (refine callF_light rfl pf_expr_Names_1 lf_expr_Names_1 (by simp [K_expr_Names_1, KF.f]) ?_; rw [evF_R]; simp only [K_expr_Names_1, KF.f, KC.c, KL.l, Y.x, O.t', oO, KR.r, V.t, V.tL, List.map_cons, List.map_nil, kd_i64, kd_u8, kd_i32, kd_u32, kd_u64, kd_u16])
      simp (disch := omega) [-Int.natCast_add, -Int.natCast_mul, -List.drop_one, *]
end Go.TM.R8

namespace Go.TM.R8
open Go Go.TM Go.Proofs
set_option linter.unusedVariables false
set_option linter.unusedSimpArgs false

@[simp] theorem cells_clo (f : FuncId) (cs : List T) : (T.clo f cs).cells = [.clo f cs] := rfl
@[simp] theorem one_clo (f : FuncId) (cs : List T) : one (.clo f cs) = true := rfl
theorem c_Names (x : Ex') (hx : (size x).1 < 900000) : callF E 0 f_expr_Names [x.t] emp = some (gs true 1 (ml strT (nmsl x [])), emp) := by
  have h := nmC x [] (upd emp (1, 1) (.box y_api_Expr x.t.cells)) (by simp) (by simp [upd_ap, emp]) (by simp; omega)
  rw [stN_nil] at h
  by_cases hl : nmsl x [] = []
  · rw [hl, stN_nil] at h
    rw [hl]
    unfold cloN at h
    rw [ml_nil, gs_true_nil]
    (refine callF_light rfl pf_expr_Names lf_expr_Names (by simp [K_expr_Names, KF.f]) ?_; rw [evF_R]; simp only [K_expr_Names, KF.f, KC.c, KL.l, Y.x, O.t', oO, KR.r, V.t, V.tL, List.map_cons, List.map_nil, kd_i64, kd_u8, kd_i32, kd_u32, kd_u64, kd_u16])
    simp (disch := omega) [-Int.natCast_add, -Int.natCast_mul, -List.drop_one, *]
  · have e : gs true 1 (ml strT (nmsl x [])) = .lst 1 (ml strT (nmsl x [])) := by
      cases hq : nmsl x [] with
      | nil => exact absurd hq hl
      | cons a l => simp [ml, gs]
    rw [stN_ne _ _ hl] at h
    rw [e]
    have h0 : 0 < (nmsl x []).length := List.length_pos_iff.2 hl
    generalize nmsl x [] = l at h h0 ⊢
    unfold cloN at h
    have e2 : List.take l.length (ml strT l) = ml strT l := by rw [ml_take, List.take_length]
    (refine callF_light rfl pf_expr_Names lf_expr_Names (by simp [K_expr_Names, KF.f]) ?_; rw [evF_R]; simp only [K_expr_Names, KF.f, KC.c, KL.l, Y.x, O.t', oO, KR.r, V.t, V.tL, List.map_cons, List.map_nil, kd_i64, kd_u8, kd_i32, kd_u32, kd_u64, kd_u16])
    simp (disch := omega) [-Int.natCast_add, -Int.natCast_mul, -List.drop_one, *]

/-! ### the reference's, from nothing -/
theorem nmsl_len (x : Ex') (l : Nm) : l.length ≤ (nmsl x l).length ∧ (nmsl x l).length ≤ l.length + (size x).1 := nms_len x (l, 0)
theorem nmslF_len (xs : List Ex') (l : Nm) (i : Nat) : l.length ≤ (nmslF xs l i).length := by
  fun_induction nmslF xs l i with
  | case1 l i h ih => have := (nmsl_len (gx xs i) l).1; omega
  | case2 l i h => exact Nat.le_refl _
theorem l_namesO (x : Ex') (d : Nat) (hd : d = 33 ∨ d = 48000) (l : Nm) (i : Nat) (ha : x.args.length < 2 ^ 62) (hb : l.length + (sizeL (x.args.drop i)).1 < 1000000) :
    Lp E 1 49 K_ref08_names_h1 K_ref08_names_b1.c ⟨[(0, .own (1, d) 0 0 l.length), (3, .ptr (1, 3) 0), (7, .sc (.int .i64 i))], upd (upd emp (1, 3) (.box y_api_Expr x.t.cells)) (1, d) (.arr false 0 1 y_string (ml strT l))⟩ =
      some (.exit 2, ⟨[(0, .own (1, d) 0 0 (nmslF x.args l i).length)], upd (upd emp (1, 3) (.box y_api_Expr x.t.cells)) (1, d) (.arr false 0 1 y_string (ml strT (nmslF x.args l i)))⟩) := by
  fun_induction nmslF x.args l i
  case case1 l i h ih1 =>
    have e : gx x.args i = x.args[i] := by simp [gx, h]
    rw [List.drop_eq_getElem_cons h, sizeL, ← e] at hb
    simp only [] at hb
    have hl := nmsl_len (gx x.args i) l
    have hc := nmB (gx x.args i) (l, 0) d (upd emp (1, 3) (.box y_api_Expr x.t.cells)) (by simp) (by simp only []; omega)
    have ih1 := ih1 (by omega)
    unfold nmsl at ih1
    simp only [] at hc
    clear hl hb e
    rcases hd with rfl | rfl
    · (rw [Lp_eq]; rw (occs := .pos [1]) [K_ref08_names_b1]; simp only [KF.f, KC.c, KL.l, Y.x, O.t', oO, KR.r, V.t, V.tL, List.map_cons, List.map_nil, kd_i64, kd_u8, kd_i32, kd_u32, kd_u64, kd_u16])
      simp (disch := omega) [-Int.natCast_add, -Int.natCast_mul, -List.drop_one, nmsl, *]
    · (rw [Lp_eq]; rw (occs := .pos [1]) [K_ref08_names_b1]; simp only [KF.f, KC.c, KL.l, Y.x, O.t', oO, KR.r, V.t, V.tL, List.map_cons, List.map_nil, kd_i64, kd_u8, kd_i32, kd_u32, kd_u64, kd_u16])
      simp (disch := omega) [-Int.natCast_add, -Int.natCast_mul, -List.drop_one, nmsl, *]
  case case2 l i h =>
    rcases hd with rfl | rfl
    · (rw [Lp_eq]; rw (occs := .pos [1]) [K_ref08_names_b1]; simp only [KF.f, KC.c, KL.l, Y.x, O.t', oO, KR.r, V.t, V.tL, List.map_cons, List.map_nil, kd_i64, kd_u8, kd_i32, kd_u32, kd_u64, kd_u16])
      simp (disch := omega) [-Int.natCast_add, -Int.natCast_mul, -List.drop_one, *]
    · (rw [Lp_eq]; rw (occs := .pos [1]) [K_ref08_names_b1]; simp only [KF.f, KC.c, KL.l, Y.x, O.t', oO, KR.r, V.t, V.tL, List.map_cons, List.map_nil, kd_i64, kd_u8, kd_i32, kd_u32, kd_u64, kd_u16])
      simp (disch := omega) [-Int.natCast_add, -Int.natCast_mul, -List.drop_one, *]
open Classical in
noncomputable def resA (l : Nm) : T × Store := if l = [] then (.sc (.slice none 0 0), emp) else (.own (1, 0) 0 0 l.length, upd emp (1, 0) (.arr false 0 1 y_string (ml strT l)))
theorem resA_nil : resA [] = (.sc (.slice none 0 0), emp) := by unfold resA; rw [if_pos rfl]
theorem resA_ne (l : Nm) (h : l ≠ []) : resA l = (.own (1, 0) 0 0 l.length, upd emp (1, 0) (.arr false 0 1 y_string (ml strT l))) := by unfold resA; rw [if_neg h]
def NmA (x : Ex') : Prop := (size x).1 < 900000 → callF E 0 f_ref08_names [.sc (.slice none 0 0), x.t] emp = some (resA (nmsl x []))
open Classical in
theorem l_namesZ (x : Ex') (ha : (sizeL x.args).1 < 900000) (ih : ∀ i, i < x.args.length → NmA (gx x.args i)) : ∀ k i, i + k = x.args.length →
    Lp E 1 49 K_ref08_names_h1 K_ref08_names_b1.c ⟨[(0, .sc (.slice none 0 0)), (3, .ptr (1, 3) 0), (7, .sc (.int .i64 i))], upd emp (1, 3) (.box y_api_Expr x.t.cells)⟩ =
      some (if nmslF x.args [] i = [] then (.exit 2, ⟨[(0, .sc (.slice none 0 0))], upd emp (1, 3) (.box y_api_Expr x.t.cells)⟩) else
        (.exit 2, ⟨[(0, .own (1, 48000) 0 0 (nmslF x.args [] i).length)], upd (upd emp (1, 3) (.box y_api_Expr x.t.cells)) (1, 48000) (.arr false 0 1 y_string (ml strT (nmslF x.args [] i)))⟩)) := by
  intro k
  induction k with
  | zero =>
    intro i hi
    have h : ¬ i < x.args.length := by omega
    have hl := sizeL_len x.args
    rw [nmslF, if_neg h, if_pos rfl]
    clear ih hi
    (rw [Lp_eq]; rw (occs := .pos [1]) [K_ref08_names_b1]; simp only [KF.f, KC.c, KL.l, Y.x, O.t', oO, KR.r, V.t, V.tL, List.map_cons, List.map_nil, kd_i64, kd_u8, kd_i32, kd_u32, kd_u64, kd_u16])
    simp (disch := omega) [-Int.natCast_add, -Int.natCast_mul, -List.drop_one, *]
  | succ k ihk =>
    intro i hi
    have h : i < x.args.length := by omega
    have hl := sizeL_len x.args
    have e : gx x.args i = x.args[i] := by simp [gx, h]
    have hm := (sizeL_mem _ _ (Ex'.gx_mem x.args i h)).1
    have hc := ih i h (by omega)
    have ihk := ihk (i + 1) (by omega)
    rw [nmslF, if_pos h]
    by_cases hn : nmsl (gx x.args i) [] = []
    · rw [hn, resA_nil] at hc
      rw [hn]
      clear ih hi hm e
      (rw [Lp_eq]; rw (occs := .pos [1]) [K_ref08_names_b1]; simp only [KF.f, KC.c, KL.l, Y.x, O.t', oO, KR.r, V.t, V.tL, List.map_cons, List.map_nil, kd_i64, kd_u8, kd_i32, kd_u32, kd_u64, kd_u16])
      simp (disch := omega) [-Int.natCast_add, -Int.natCast_mul, -List.drop_one, *]
    · rw [resA_ne _ hn] at hc
      have h1 := nmslF_len x.args (nmsl (gx x.args i) []) (i + 1)
      have h2 : 0 < (nmsl (gx x.args i) []).length := List.length_pos_iff.2 hn
      have h3 : nmslF x.args (nmsl (gx x.args i) []) (i + 1) ≠ [] := by intro e; rw [e, List.length_nil] at h1; omega
      have hs : (nmsl (gx x.args i) []).length + (sizeL (x.args.drop (i + 1))).1 ≤ (sizeL (x.args.drop i)).1 := by
        have := (nmsl_len (gx x.args i) []).2
        rw [List.drop_eq_getElem_cons h, sizeL, ← e]; simp only [List.length_nil] at this ⊢; omega
      have hd : ∀ j, (sizeL (x.args.drop j)).1 ≤ (sizeL x.args).1 := by
        intro j
        have : ∀ (ys : List Ex') j, (sizeL (ys.drop j)).1 ≤ (sizeL ys).1 := by
          intro ys
          induction ys with
          | nil => intro j; simp [sizeL]
          | cons y ys h => intro j; cases j with
            | zero => simp
            | succ j => rw [List.drop_succ_cons]; have := h j; simp only [sizeL]; omega
        exact this _ j
      have ho := l_namesO x 48000 (.inr rfl) (nmsl (gx x.args i) []) (i + 1) (by omega) (by have := hd i; omega)
      rw [if_neg h3]
      clear ih hi hm h1 hs hd ihk h3 e
      generalize nmsl (gx x.args i) [] = l at hc ho h2 ⊢
      clear hn
      (rw [Lp_eq]; rw (occs := .pos [1]) [K_ref08_names_b1]; simp only [KF.f, KC.c, KL.l, Y.x, O.t', oO, KR.r, V.t, V.tL, List.map_cons, List.map_nil, kd_i64, kd_u8, kd_i32, kd_u32, kd_u64, kd_u16])
      simp (disch := omega) [-Int.natCast_add, -Int.natCast_mul, -List.drop_one, *]
end Go.TM.R8

namespace Go.TM.R8
open Go Go.TM Go.Proofs
set_option linter.unusedVariables false
set_option linter.unusedSimpArgs false

theorem l_hasZ (x : Ex') : Lp E 1 49 K_ref08_names_h0 K_ref08_names_b0.c ⟨[(0, .sc (.slice none 0 0)), (3, .ptr (1, 3) 0), (5, .sc (.bool false)), (6, .sc (.int .i64 0))], upd emp (1, 3) (.box y_api_Expr x.t.cells)⟩ =
      some (.exit 0, ⟨[(0, .sc (.slice none 0 0)), (3, .ptr (1, 3) 0), (5, .sc (.bool false))], upd emp (1, 3) (.box y_api_Expr x.t.cells)⟩) := by
  (rw [Lp_eq]; rw (occs := .pos [1]) [K_ref08_names_b0]; simp only [KF.f, KC.c, KL.l, Y.x, O.t', oO, KR.r, V.t, V.tL, List.map_cons, List.map_nil, kd_i64, kd_u8, kd_i32, kd_u32, kd_u64, kd_u16])
  simp (disch := omega) [-Int.natCast_add, -Int.natCast_mul, -List.drop_one, *]
theorem nmA (x : Ex') : NmA x := by
  refine Ex'.ind2 (P := NmA) (fun x ih hx => ?_) x
  have hs : (sizeL x.args).1 + 1 < 900000 := by rw [size_eq] at hx; exact hx
  have hl := sizeL_len x.args
  have hz := l_hasZ x
  rw [nmsl_eq]
  by_cases hN : named x.op = true
  · have h1 : isIn [] x.name = false := rfl
    simp only [hN, if_true, h1, Bool.false_eq_true, if_false, List.nil_append]
    have ho := l_namesO x 33 (.inl rfl) [x.name] 0 (by omega) (by simp; omega)
    have h2 := nmslF_len x.args [x.name] 0
    have h3 : nmslF x.args [x.name] 0 ≠ [] := by intro e; rw [e] at h2; simp at h2
    rw [resA_ne _ h3]
    rw [show ml strT [x.name] = [T.sc (str x.name)] from rfl] at ho
    generalize nmslF x.args [x.name] 0 = l at ho h2 ⊢
    clear ih h3
    try simp only [List.length_set, List.length_append, List.length_cons, List.length_nil, List.length_map, List.length_replicate, Nat.zero_add, Nat.succ_eq_add_one, Int.cast_ofNat_Int] at *
    (refine callF_light rfl pf_ref08_names lf_ref08_names (by simp [K_ref08_names, KF.f]) ?_; rw [evF_R]; simp only [K_ref08_names, KF.f, KC.c, KL.l, Y.x, O.t', oO, KR.r, V.t, V.tL, List.map_cons, List.map_nil, kd_i64, kd_u8, kd_i32, kd_u32, kd_u64, kd_u16])
    simp (disch := omega) [-Int.natCast_add, -Int.natCast_mul, -List.drop_one, *]
  · simp only [hN, Bool.false_eq_true, if_false]
    have ho := l_namesZ x (by omega) ih x.args.length 0 (by omega)
    clear ih
    by_cases h3 : nmslF x.args [] 0 = []
    · rw [if_pos h3] at ho
      rw [h3, resA_nil]
      clear h3
      try simp only [List.length_set, List.length_append, List.length_cons, List.length_nil, List.length_map, List.length_replicate, Nat.zero_add, Nat.succ_eq_add_one, Int.cast_ofNat_Int] at *
      (refine callF_light rfl pf_ref08_names lf_ref08_names (by simp [K_ref08_names, KF.f]) ?_; rw [evF_R]; simp only [K_ref08_names, KF.f, KC.c, KL.l, Y.x, O.t', oO, KR.r, V.t, V.tL, List.map_cons, List.map_nil, kd_i64, kd_u8, kd_i32, kd_u32, kd_u64, kd_u16])
      simp (disch := omega) [-Int.natCast_add, -Int.natCast_mul, -List.drop_one, *]
    · rw [if_neg h3] at ho
      rw [resA_ne _ h3]
      generalize nmslF x.args [] 0 = l at ho ⊢
      try simp only [List.length_set, List.length_append, List.length_cons, List.length_nil, List.length_map, List.length_replicate, Nat.zero_add, Nat.succ_eq_add_one, Int.cast_ofNat_Int] at *
      (refine callF_light rfl pf_ref08_names lf_ref08_names (by simp [K_ref08_names, KF.f]) ?_; rw [evF_R]; simp only [K_ref08_names, KF.f, KC.c, KL.l, Y.x, O.t', oO, KR.r, V.t, V.tL, List.map_cons, List.map_nil, kd_i64, kd_u8, kd_i32, kd_u32, kd_u64, kd_u16])
      simp (disch := omega) [-Int.natCast_add, -Int.natCast_mul, -List.drop_one, *]
theorem c_rNames (x : Ex') (hx : (size x).1 < 900000) : callF E 0 f_ref08_Names [x.t] emp = some (gs true 1 (ml strT (nmsl x [])), emp) := by
  have h := nmA x hx
  by_cases hl : nmsl x [] = []
  · rw [hl, resA_nil] at h
    rw [hl, ml_nil, gs_true_nil]
    (refine callF_light rfl pf_ref08_Names lf_ref08_Names (by simp [K_ref08_Names, KF.f]) ?_; rw [evF_R]; simp only [K_ref08_Names, KF.f, KC.c, KL.l, Y.x, O.t', oO, KR.r, V.t, V.tL, List.map_cons, List.map_nil, kd_i64, kd_u8, kd_i32, kd_u32, kd_u64, kd_u16])
    simp (disch := omega) [-Int.natCast_add, -Int.natCast_mul, -List.drop_one, *]
  · have e : gs true 1 (ml strT (nmsl x [])) = .lst 1 (ml strT (nmsl x [])) := by
      cases hq : nmsl x [] with
      | nil => exact absurd hq hl
      | cons a l => simp [ml, gs]
    rw [resA_ne _ hl] at h
    rw [e]
    generalize nmsl x [] = l at h ⊢
    have e2 : List.take l.length (ml strT l) = ml strT l := by rw [ml_take, List.take_length]
    (refine callF_light rfl pf_ref08_Names lf_ref08_Names (by simp [K_ref08_Names, KF.f]) ?_; rw [evF_R]; simp only [K_ref08_Names, KF.f, KC.c, KL.l, Y.x, O.t', oO, KR.r, V.t, V.tL, List.map_cons, List.map_nil, kd_i64, kd_u8, kd_i32, kd_u32, kd_u64, kd_u16])
    simp (disch := omega) [-Int.natCast_add, -Int.natCast_mul, -List.drop_one, *]

/-! ### large ones -/
def lgX (xs : List Ex') (i : Nat) : Ex × St := if i < xs.length then (if 400 < (size (gx xs i)).1 then (.ret, ⟨[(2, .sc (.bool true))], emp⟩) else if 80 < (size (gx xs i)).2 then (.ret, ⟨[(2, .sc (.bool true))], emp⟩) else if wide (gx xs i) = true then (.ret, ⟨[(2, .sc (.bool true))], emp⟩) else lgX xs (i + 1)) else (.exit 0, ⟨[], emp⟩)
  termination_by xs.length - i
def long (x : Ex') : Bool := decide (400 < (size x).1) || decide (80 < (size x).2) || wide x
theorem lgX_eq (xs : List Ex') (i : Nat) : lgX xs i = if (xs.drop i).any long = true then (.ret, ⟨[(2, .sc (.bool true))], emp⟩) else (.exit 0, ⟨[], emp⟩) := by
  fun_induction lgX xs i with
  | case1 i h h1 => rw [List.drop_eq_getElem_cons h, List.any_cons]; have : gx xs i = xs[i] := by simp [gx, h]
                    rw [this] at h1; simp [long, h1]
  | case2 i h h1 h2 => rw [List.drop_eq_getElem_cons h, List.any_cons]; have : gx xs i = xs[i] := by simp [gx, h]
                       rw [this] at h1 h2; simp [long, h2]
  | case3 i h h1 h2 h3 => rw [List.drop_eq_getElem_cons h, List.any_cons]; have : gx xs i = xs[i] := by simp [gx, h]
                          rw [this] at h1 h2 h3; simp [long, h3]
  | case4 i h h1 h2 h3 ih =>
    have : gx xs i = xs[i] := by simp [gx, h]
    rw [this] at h1 h2 h3
    rw [ih, List.drop_eq_getElem_cons h, List.any_cons]
    have : long xs[i] = false := by simp only [long, Bool.or_eq_false_iff, decide_eq_false_iff_not]; exact ⟨⟨h1, h2⟩, by simpa using h3⟩
    rw [this, Bool.false_or]
  | case5 i h => rw [List.drop_eq_nil_of_le (by omega)]; rfl
theorem l_long (b : Bool) (xs : List Ex') (i : Nat) (ha : xs.length < 1000000) (hs : ∀ i, i < xs.length → (size (gx xs i)).1 < 2 ^ 61) :
    Lp E 1 33 K_law08_Long_h0 K_law08_Long_b0.c ⟨[(0, gs b 8 (ml Ex'.t xs)), (3, .sc (.int .i64 i))], emp⟩ = some (lgX xs i) := by
  fun_induction lgX xs i
  case case1 i h h1 => have hz := hs i h; clear hs; (rw [Lp_eq]; rw (occs := .pos [1]) [K_law08_Long_b0]; simp only [KF.f, KC.c, KL.l, Y.x, O.t', oO, KR.r, V.t, V.tL, List.map_cons, List.map_nil, kd_i64, kd_u8, kd_i32, kd_u32, kd_u64, kd_u16]); simp (disch := omega) [-Int.natCast_add, -Int.natCast_mul, -List.drop_one, *]
  case case2 i h h1 h2 => have hz := hs i h; clear hs; (rw [Lp_eq]; rw (occs := .pos [1]) [K_law08_Long_b0]; simp only [KF.f, KC.c, KL.l, Y.x, O.t', oO, KR.r, V.t, V.tL, List.map_cons, List.map_nil, kd_i64, kd_u8, kd_i32, kd_u32, kd_u64, kd_u16]); simp (disch := omega) [-Int.natCast_add, -Int.natCast_mul, -List.drop_one, *]
  case case3 i h h1 h2 h3 => have hz := hs i h; clear hs; (rw [Lp_eq]; rw (occs := .pos [1]) [K_law08_Long_b0]; simp only [KF.f, KC.c, KL.l, Y.x, O.t', oO, KR.r, V.t, V.tL, List.map_cons, List.map_nil, kd_i64, kd_u8, kd_i32, kd_u32, kd_u64, kd_u16]); simp (disch := omega) [-Int.natCast_add, -Int.natCast_mul, -List.drop_one, *]
  case case4 i h h1 h2 h3 ih => have hz := hs i h; clear hs; (rw [Lp_eq]; rw (occs := .pos [1]) [K_law08_Long_b0]; simp only [KF.f, KC.c, KL.l, Y.x, O.t', oO, KR.r, V.t, V.tL, List.map_cons, List.map_nil, kd_i64, kd_u8, kd_i32, kd_u32, kd_u64, kd_u16]); simp (disch := omega) [-Int.natCast_add, -Int.natCast_mul, -List.drop_one, *]
  case case5 i h => clear hs; (rw [Lp_eq]; rw (occs := .pos [1]) [K_law08_Long_b0]; simp only [KF.f, KC.c, KL.l, Y.x, O.t', oO, KR.r, V.t, V.tL, List.map_cons, List.map_nil, kd_i64, kd_u8, kd_i32, kd_u32, kd_u64, kd_u16]); simp (disch := omega) [-Int.natCast_add, -Int.natCast_mul, -List.drop_one, *]
theorem c_long (b : Bool) (xs : List Ex') (ha : xs.length < 1000000) (hs : ∀ i, i < xs.length → (size (gx xs i)).1 < 2 ^ 61) :
    callF E 0 f_law08_Long [gs b 8 (ml Ex'.t xs)] emp = some (.sc (.bool (xs.any long)), emp) := by
  have h := l_long b xs 0 ha hs
  rw [lgX_eq, List.drop_zero] at h
  clear hs
  try simp only [List.length_set, List.length_append, List.length_cons, List.length_nil, List.length_map, List.length_replicate, Nat.zero_add, Nat.succ_eq_add_one, Int.cast_ofNat_Int] at *
  generalize xs.any long = q at h ⊢
  (refine callF_light rfl pf_law08_Long lf_law08_Long (by simp [K_law08_Long, KF.f]) ?_; rw [evF_R]; simp only [K_law08_Long, KF.f, KC.c, KL.l, Y.x, O.t', oO, KR.r, V.t, V.tL, List.map_cons, List.map_nil, kd_i64, kd_u8, kd_i32, kd_u32, kd_u64, kd_u16])
  cases q <;> (try simp (disch := omega) [-Int.natCast_add, -Int.natCast_mul, -List.drop_one, *]) <;> repeat' (first | (rw [RC_d]; split <;> (try (exfalso; omega)) <;> try simp (disch := omega) [-Int.natCast_add, -Int.natCast_mul, -List.drop_one, *]) | (rw [RG_d]; split <;> (try (exfalso; omega)) <;> try simp (disch := omega) [-Int.natCast_add, -Int.natCast_mul, -List.drop_one, *]) | (rw [RG_e]; split <;> (try (exfalso; omega)) <;> try simp (disch := omega) [-Int.natCast_add, -Int.natCast_mul, -List.drop_one, *]) | (rw [RC_b]; split <;> (try (exfalso; omega)) <;> try simp (disch := omega) [-Int.natCast_add, -Int.natCast_mul, -List.drop_one, *]) | (rw [RG_x]; split <;> (try (exfalso; omega)) <;> try simp (disch := omega) [-Int.natCast_add, -Int.natCast_mul, -List.drop_one, *]) | (rw [RG_y]; split <;> (try (exfalso; omega)) <;> try simp (disch := omega) [-Int.natCast_add, -Int.natCast_mul, -List.drop_one, *]) | (split <;> (try (exfalso; omega)) <;> try simp (disch := omega) [-Int.natCast_add, -Int.natCast_mul, -List.drop_one, *]))
@[simp] theorem c_awake : callF E 0 f_law08_awake [] emp = some (.sc (.bool true), emp) := callF_X (g := XAw) rfl rfl rfl rfl rfl
end Go.TM.R8

namespace Go.TM.R8
open Go Go.TM Go.Proofs
set_option linter.unusedVariables false
set_option linter.unusedSimpArgs false

theorem l_law (x y : Ex') (l : Nm) (i : Nat) (ha : l.length < 1000000) (S : Store) :
    Lp E 1 84 K_law08_ExprQueriesMatch_h0 K_law08_ExprQueriesMatch_b0.c ⟨[(5, gs true 1 (ml strT l)), (6, gs true 1 (ml strT l)), (11, .sc (.int .i64 i))], upd (upd (upd emp (1, 2) (.box y_api_Expr x.t.cells)) (1, 3) (.box y_api_Expr y.t.cells)) (1, 14) (.arr false 0 8 y_api_Expr [x.t, y.t])⟩ =
      some (.exit 0, ⟨[], upd (upd (upd emp (1, 2) (.box y_api_Expr x.t.cells)) (1, 3) (.box y_api_Expr y.t.cells)) (1, 14) (.arr false 0 8 y_api_Expr [x.t, y.t])⟩) := by
  have key : ∀ k i, i + k = l.length → Lp E 1 84 K_law08_ExprQueriesMatch_h0 K_law08_ExprQueriesMatch_b0.c ⟨[(5, gs true 1 (ml strT l)), (6, gs true 1 (ml strT l)), (11, .sc (.int .i64 i))], upd (upd (upd emp (1, 2) (.box y_api_Expr x.t.cells)) (1, 3) (.box y_api_Expr y.t.cells)) (1, 14) (.arr false 0 8 y_api_Expr [x.t, y.t])⟩ =
      some (.exit 0, ⟨[], upd (upd (upd emp (1, 2) (.box y_api_Expr x.t.cells)) (1, 3) (.box y_api_Expr y.t.cells)) (1, 14) (.arr false 0 8 y_api_Expr [x.t, y.t])⟩) := by
    intro k
    induction k with
    | zero =>
      intro i hi
      have h : ¬ i < l.length := by omega
      clear hi
      (rw [Lp_eq]; rw (occs := .pos [1]) [K_law08_ExprQueriesMatch_b0]; simp only [KF.f, KC.c, KL.l, Y.x, O.t', oO, KR.r, V.t, V.tL, List.map_cons, List.map_nil, kd_i64, kd_u8, kd_i32, kd_u32, kd_u64, kd_u16])
      simp (disch := omega) [-Int.natCast_add, -Int.natCast_mul, -List.drop_one, *]
    | succ k ih =>
      intro i hi
      have h : i < l.length := by omega
      have ih := ih (i + 1) (by omega)
      clear hi
      (rw [Lp_eq]; rw (occs := .pos [1]) [K_law08_ExprQueriesMatch_b0]; simp only [KF.f, KC.c, KL.l, Y.x, O.t', oO, KR.r, V.t, V.tL, List.map_cons, List.map_nil, kd_i64, kd_u8, kd_i32, kd_u32, kd_u64, kd_u16])
      simp (disch := omega) [-Int.natCast_add, -Int.natCast_mul, -List.drop_one, strT, *]
  by_cases h : i ≤ l.length
  · exact key (l.length - i) i (by omega)
  · have h : ¬ i < l.length := by omega
    clear key
    (rw [Lp_eq]; rw (occs := .pos [1]) [K_law08_ExprQueriesMatch_b0]; simp only [KF.f, KC.c, KL.l, Y.x, O.t', oO, KR.r, V.t, V.tL, List.map_cons, List.map_nil, kd_i64, kd_u8, kd_i32, kd_u32, kd_u64, kd_u16])
    simp (disch := omega) [-Int.natCast_add, -Int.natCast_mul, -List.drop_one, *]
theorem equal_refl : ∀ x : Ex', equal x x = true := by
  refine Ex'.ind3 fun x ih => ?_
  rw [equal_eq]
  have key : ∀ xs : List Ex', (∀ y ∈ xs, equal y y = true) → allEq equal xs xs = true := by
    intro xs
    induction xs with
    | nil => intro _; rfl
    | cons y ys h => intro hh; rw [allEq, hh y (by simp), h fun z hz => hh z (by simp [hz])]; rfl
  rw [key _ ih]
  simp
set_option maxHeartbeats 2000000 in
theorem c_law (x y : Ex') (hx : (size x).1 < 900000) (hy : (size y).1 < 900000) : callF E 0 f_law08_ExprQueriesMatch [x.t, y.t] emp = some (.sc (.bool true), emp) := by
  have hl := c_long false [x, y] (by simp) (by intro i hi; match i, hi with | 0, _ => exact Nat.lt_trans hx (by decide) | 1, _ => exact Nat.lt_trans hy (by decide))
  rw [gs_false, show ml Ex'.t [x, y] = [x.t, y.t] from rfl] at hl
  have h1 := c_Names x hx
  have h2 := c_rNames x hx
  have h3 := c_size x (by omega)
  have h4 := c_rsize x (by omega)
  have h5 := c_lvalue x (by omega)
  have h6 := c_rlvalue x (by omega)
  cases hq : [x, y].any long with
  | true =>
    rw [hq] at hl
    clear h1 h2 h3 h4 h5 h6
    (refine callF_light rfl pf_law08_ExprQueriesMatch lf_law08_ExprQueriesMatch (by simp [K_law08_ExprQueriesMatch, KF.f]) ?_; rw [evF_R]; simp only [K_law08_ExprQueriesMatch, KF.f, KC.c, KL.l, Y.x, O.t', oO, KR.r, V.t, V.tL, List.map_cons, List.map_nil, kd_i64, kd_u8, kd_i32, kd_u32, kd_u64, kd_u16])
    simp (disch := omega) [-Int.natCast_add, -Int.natCast_mul, -List.drop_one, *]
  | false =>
    rw [hq] at hl
    simp only [List.any_cons, List.any_nil, Bool.or_false, Bool.or_eq_false_iff, long] at hq
    obtain ⟨⟨_, w1⟩, ⟨_, w2⟩⟩ := hq
    have h7 := c_equal x y (by omega) (by omega) w1 w2
    have h8 := c_requal x y (by omega) (by omega) w1 w2
    have h9 := c_equal x x (by omega) (by omega) w1 w1
    rw [equal_refl] at h9
    have h10 := (nmsl_len x []).2
    have h11 := l_law x y (nmsl x []) 0 (by simp at h10; omega) emp
    generalize nmsl x [] = l at h1 h2 h11
    clear w1 w2 h10
    try simp only [List.length_set, List.length_append, List.length_cons, List.length_nil, List.length_map, List.length_replicate, Nat.zero_add, Nat.succ_eq_add_one, Int.cast_ofNat_Int] at *
    (refine callF_light rfl pf_law08_ExprQueriesMatch lf_law08_ExprQueriesMatch (by simp [K_law08_ExprQueriesMatch, KF.f]) ?_; rw [evF_R]; simp only [K_law08_ExprQueriesMatch, KF.f, KC.c, KL.l, Y.x, O.t', oO, KR.r, V.t, V.tL, List.map_cons, List.map_nil, kd_i64, kd_u8, kd_i32, kd_u32, kd_u64, kd_u16])
    simp (disch := omega) [-Int.natCast_add, -Int.natCast_mul, -List.drop_one, *]
end Go.TM.R8
