/- Expressions: Format, of all but the largest. -/
import Derived.Test.YtgmclgajlofljaaGreatDoorV8S
import Derived.Test.YtgmclgajlofljaaGreatDoorR8V
import Derived.Test.YtgmclgajlofljaaGreatDoorQ8I
import Derived.Test.YtgmclgajlofljaaGreatDoorV8O
set_option linter.all false
namespace Go.TM.R8
open Go Go.TM Go.Proofs Go.TM.A8
attribute [-simp] Int.natCast_add Int.natCast_mul List.drop_one
def formatF (x : Ex') : List UInt8 × Nat := if checkF x = 0 then (if 65536 < (txt x).length then ([], 5) else (txt x, 0)) else ([], checkF x)
theorem check_nodes {x : Ex'} (h : checkF x = 0) : chkN x = 0 := by
 unfold checkF at h
 split at h
 ·cases h
 ·exact h
theorem arnd_ne (a : List (List (List UInt8))) (t : List UInt8) (ts : List (List UInt8)) : arnd a (t :: ts) ≠ [] := by
 cases a <;> simp [arnd]
theorem node_ne (op : Nat) (name : List UInt8) (bits : List Nat) (vs : Bool) (a : List (List (List UInt8))) : node op name bits vs a ≠ [] := by
 unfold node
 by_cases hc0 : op = 1
 ·rw [if_pos hc0]; simp
 rw [if_neg hc0]
 by_cases hc1 : op = 2
 ·rw [if_pos hc1]; simp
 rw [if_neg hc1]
 by_cases hc2 : op = 3
 ·rw [if_pos hc2]; simp
 rw [if_neg hc2]
 by_cases hc3 : op = 4
 ·rw [if_pos hc3]; exact arnd_ne _ _ _
 rw [if_neg hc3]
 by_cases hc4 : op = 5
 ·rw [if_pos hc4]; exact arnd_ne _ _ _
 rw [if_neg hc4]
 by_cases hc5 : op = 6
 ·rw [if_pos hc5]; simp
 rw [if_neg hc5]
 by_cases hc6 : op = 7
 ·rw [if_pos hc6]; simp [arnd_ne]
 rw [if_neg hc6]
 by_cases hc7 : op = 8
 ·rw [if_pos hc7]; simp
 rw [if_neg hc7]
 by_cases hc8 : op = 9
 ·rw [if_pos hc8]; simp
 rw [if_neg hc8]
 by_cases hc9 : op = 10
 ·rw [if_pos hc9]; exact arnd_ne _ _ _
 rw [if_neg hc9]
 by_cases hc10 : op < 21
 ·rw [if_pos hc10]; exact arnd_ne _ _ _
 rw [if_neg hc10]
 exact arnd_ne _ _ _
theorem adds_s : ∀ (xs : List (List UInt8)) (g : Nat) (b : List UInt8), ∃ g', adds (some (g, b)) xs = some (g', b ++ xs.flatten)
 | [], g, b => ⟨g, by simp [adds]⟩
 | x :: xs, g, b => by
  obtain ⟨g', h⟩ := adds_s xs (g + 1) (b ++ x)
  exact ⟨g', by rw [adds]; show adds (some (g + 1, b ++ x)) xs = _; rw [h]; simp⟩
theorem adds_n (xs : List (List UInt8)) (h : xs ≠ []) : ∃ g, adds none xs = some (g, xs.flatten) := by
 cases xs with
 | nil => exact absurd rfl h
 | cons x xs => obtain ⟨g, h⟩ := adds_s xs 0 x; exact ⟨g, h⟩
theorem c_Len1 (d g : Nat) (b : List UInt8) (S : Store) (hS : trunc 1 S = S) (hd : d < 7000) (hb : b.length < 1000000000) : callF E 1 f_Builder_Len [.ptr (1, d) 0] (W.bld1 d g b S) = some (.sc (.int .i64 b.length), W.bld1 d g b S) := by
 have h1 : ¬ d = 7000 := by omega
 have h2 : ¬ 7000 = d := by omega
 unfold W.bld1
 (refine callF_light rfl pf_Builder_Len lf_Builder_Len (by simp [K_Builder_Len]) ?_; rw [evF_R, K_Builder_Len])
 simp (disch := omega) [W.trunc_maskT, *]
theorem txt_pos {x : Ex'} (hk : chkN x = 0) : 0 < (txt x).length := by
 have ok := ok_of hk
 have A : ∀ a t ts, 0 < List.length t → 0 < (arnd a (t :: ts)).flatten.length := fun a t ts h => Nat.lt_of_lt_of_le h (arnd_ge a t ts)
 have N : ∀ k, x.op = k → named k = true → 0 < x.name.length := fun k h1 h2 => ident_pos (ok.nm (by rw [h1]; exact h2))
 unfold txt
 rw [pc_eq]
 unfold node
 by_cases hc0 : x.op = 1
 ·rw [if_pos hc0]; have := (numF_pos (sg := x.vs) (ok.li hc0)).1; simp only [List.flatten_cons, List.flatten_nil, List.append_nil]; exact this
 rw [if_neg hc0]
 by_cases hc1 : x.op = 2
 ·rw [if_pos hc1]; have := N 2 hc1 rfl; simp only [List.flatten_cons, List.flatten_nil, List.append_nil]; exact this
 rw [if_neg hc1]
 by_cases hc2 : x.op = 3
 ·rw [if_pos hc2]; have := N 3 hc2 rfl; simp only [List.flatten_cons, List.length_append]; omega
 rw [if_neg hc2]
 by_cases hc3 : x.op = 4
 ·rw [if_pos hc3]; exact A _ _ _ (by simp)
 rw [if_neg hc3]
 by_cases hc4 : x.op = 5
 ·rw [if_pos hc4]; exact A _ _ _ (by simp)
 rw [if_neg hc4]
 by_cases hc5 : x.op = 6
 ·rw [if_pos hc5]; simp
 rw [if_neg hc5]
 by_cases hc6 : x.op = 7
 ·rw [if_pos hc6]; rw [List.flatten_append, List.length_append]; have := A (List.take 1 (x.args.map pc)) [123] [[123]] (by simp); omega
 rw [if_neg hc6]
 by_cases hc7 : x.op = 8
 ·rw [if_pos hc7]; have := N 8 hc7 rfl; simp only [List.flatten_cons, List.length_append]; omega
 rw [if_neg hc7]
 by_cases hc8 : x.op = 9
 ·rw [if_pos hc8]; have := sys_pos (ok.sy hc8); simp only [List.flatten_cons, List.length_append]; omega
 rw [if_neg hc8]
 by_cases hc9 : x.op = 10
 ·rw [if_pos hc9]; exact A _ _ _ (by simp)
 rw [if_neg hc9]
 by_cases hc10 : x.op < 21
 ·rw [if_pos hc10]; exact A _ _ _ (by simp)
 rw [if_neg hc10]
 exact A _ _ _ (by simp)
def lowX (x : Ex') : LowS := ⟨upd emp (1, 1) (.box y_api_Expr x.t.cells), by simp, by simp [upd_ap, emp]⟩
theorem c_FormatB (x : Ex') (hs : (size x).1 < 900000) (hw : big x = false) (hl : chkN x = 0 → (txt x).length < 999999999) : callF E 0 f_expr_Format [x.t] emp = some (.tup [.sc (str (formatF x).1), .sc (.int .i64 ((formatF x).2 : Int))], emp) := by
 have hC := c_CheckB x hs hw
 unfold formatF
 by_cases h0 : checkF x = 0
 ·rw [if_pos h0]
  rw [h0] at hC
  have hk := check_nodes h0
  have hl := hl hk
  have hW := wr x hs hk none (lowX x) (by rw [bl_adds]; show 0 + (txt x).length < _; omega)
  obtain ⟨g, hg⟩ := adds_n (pc x) (by rw [pc_eq]; exact node_ne _ _ _ _ _)
  rw [hg] at hW
  change callF E 1 f_expr_writer_expr [.ptr (1, 12) 0, x.t] (W.bld0 12 (lowX x).S) = some (.tup [], W.bld1 12 g (txt x) (lowX x).S) at hW
  have hL := c_Len1 12 g (txt x) (lowX x).S (lowX x).h1 (by decide) (by omega)
  have hp := txt_pos hk
  have hR := W.c_BString1 12 g (txt x) (lowX x).S
  rw [if_pos ⟨(lowX x).h1, by decide, hp, by omega⟩] at hR
  generalize txt x = b at *
  unfold lowX at hW hL hR
  unfold W.bld0 W.bld1 at hW
  unfold W.bld1 at hL
  unfold W.bld1 W.bldR at hR
  simp only [] at hW hL hR
  by_cases h5 : 65536 < b.length
  ·rw [if_pos h5]
   clear hl hp hg hk h0 hs hw
   try simp only [lenN, Int.cast_ofNat_Int] at *
   (refine callF_light rfl pf_expr_Format lf_expr_Format (by simp [K_expr_Format]) ?_; rw [evF_R, K_expr_Format])
   simp (disch := omega) [*]
  ·rw [if_neg h5]
   clear hl hp hg hk h0 hs hw
   try simp only [lenN, Int.cast_ofNat_Int] at *
   (refine callF_light rfl pf_expr_Format lf_expr_Format (by simp [K_expr_Format]) ?_; rw [evF_R, K_expr_Format])
   simp (disch := omega) [*]
 ·rw [if_neg h0]
  have h0 : decide (checkF x = 0) = false := by simpa using h0
  generalize checkF x = c at *
  clear hs hw
  (refine callF_light rfl pf_expr_Format lf_expr_Format (by simp [K_expr_Format]) ?_; rw [evF_R, K_expr_Format])
  simp (disch := omega) [*]
end Go.TM.R8
namespace Go.TM.R8
open Go Go.TM Go.Proofs Go.TM.A8
attribute [-simp] Int.natCast_add Int.natCast_mul List.drop_one
def eqB (a b : List Nat) : Bool := decide (a.length = b.length) && decide (a = b)
theorem eqB_eq (a b : List Nat) : eqB a b = decide (a = b) := by
 unfold eqB; by_cases h : a = b
 ·subst h; simp
 ·simp [h]
def ebX (r : Ex × St) (a b : List Nat) (S : Store) (i : Nat) : Ex × St := if i < a.length then (if gn a i = gn b i then ebX r a b S (i + 1) else r) else (.exit 0, ⟨[], S⟩)
 termination_by a.length - i
theorem ebX_eq (r : Ex × St) (a b : List Nat) (S : Store) (i : Nat) (h : a.length = b.length) : ebX r a b S i = if decide (a.drop i = b.drop i) = true then (.exit 0, ⟨[], S⟩) else r := by
 simp only [decide_eq_true_eq]
 fun_induction ebX r a b S i with
 | case1 i h1 h2 ih =>
  have h3 : gn a i = a[i] := by simp [gn, h1]
  have h4 : gn b i = b[i] := by simp [gn, show i < b.length by omega]
  rw [ih, List.drop_eq_getElem_cons h1, List.drop_eq_getElem_cons (show i < b.length by omega)]
  rw [h3, h4] at h2
  simp only [List.cons.injEq, h2, true_and]
 | case2 i h1 h2 =>
  have h3 : gn a i = a[i] := by simp [gn, h1]
  have h4 : gn b i = b[i] := by simp [gn, show i < b.length by omega]
  rw [List.drop_eq_getElem_cons h1, List.drop_eq_getElem_cons (show i < b.length by omega)]
  rw [h3, h4] at h2
  simp only [List.cons.injEq, h2, false_and, if_false]
 | case3 i h1 => rw [List.drop_eq_nil_of_le (by omega), List.drop_eq_nil_of_le (by omega)]; simp
theorem l_eqBit (b b' : Bool) (x y : List Nat) (i : Nat) (h : y.length = x.length) (ha : x.length < 2 ^ 62) :
  Lp E 1 26 K_slices_Equal_Bit_h0 K_slices_Equal_Bit_b0.c ⟨[(0, gs b 1 (ul x)), (1, gs b' 1 (ul y)), (12, .sc (.int .i64 x.length)), (13, .sc (.int .i64 i))], emp⟩ = some (ebX (.ret, ⟨[(4, .sc (.bool false))], emp⟩) x y emp i) := by
 fun_induction ebX (.ret, ⟨[(4, .sc (.bool false))], emp⟩) x y emp i <;> (rw [Lp_eq]; rw (occs := .pos [1]) [K_slices_Equal_Bit_b0])
 all_goals simp (disch := omega) [*]
@[simp] theorem c_eqBit (b b' : Bool) (x y : List Nat) (ha : x.length < 2 ^ 62) (hb : y.length < 2 ^ 62) : callF E 0 f_slices_Equal_Bit [gs b 1 (ul x), gs b' 1 (ul y)] emp = some (.sc (.bool (decide (x = y))), emp) := by
 by_cases h : x.length = y.length
 ·have hl := l_eqBit b b' x y 0 h.symm ha
  rw [ebX_eq _ _ _ _ _ h, List.drop_zero, List.drop_zero] at hl
  try simp only [lenN, Int.cast_ofNat_Int] at *
  have h2 : decide (x.length = y.length) = true := by simpa using h
  clear h
  generalize decide (x = y) = q at hl ⊢
  (refine callF_light rfl pf_slices_Equal_Bit lf_slices_Equal_Bit (by simp [K_slices_Equal_Bit]) ?_; rw [evF_R, K_slices_Equal_Bit])
  cases q <;> (try simp (disch := omega) [*]) <;> repeat' ((first | rw [RC_d] | rw [RG_d] | rw [RG_e] | rw [RC_b] | rw [RG_x] | rw [RG_y] | skip); split <;> (try (exfalso; omega)) <;> try simp (disch := omega) [*])
 ·have h3 : ¬ x = y := fun e => h (by rw [e])
  (refine callF_light rfl pf_slices_Equal_Bit lf_slices_Equal_Bit (by simp [K_slices_Equal_Bit]) ?_; rw [evF_R, K_slices_Equal_Bit])
  (try simp (disch := omega) [*]) <;> repeat' ((first | rw [RC_d] | rw [RG_d] | rw [RG_e] | rw [RC_b] | rw [RG_x] | rw [RG_y] | skip); split <;> (try (exfalso; omega)) <;> try simp (disch := omega) [*])
def efX (p : Ex' → Ex' → Bool) (r q : Ex × St) (xs ys : List Ex') (i : Nat) : Ex × St := if i < xs.length then (if p (gx xs i) (gx ys i) = true then efX p r q xs ys (i + 1) else r) else q
 termination_by xs.length - i
def allEq (p : Ex' → Ex' → Bool) : List Ex' → List Ex' → Bool
 | x :: xs, y :: ys => p x y && allEq p xs ys
 | _, _ => true
theorem efX_eq (p : Ex' → Ex' → Bool) (r q : Ex × St) (xs ys : List Ex') (i : Nat) (h : ys.length = xs.length) : efX p r q xs ys i = if allEq p (xs.drop i) (ys.drop i) = true then q else r := by
 fun_induction efX p r q xs ys i with
 | case1 i h1 h2 ih =>
  have h3 : gx xs i = xs[i] := by simp [gx, h1]
  have h4 : gx ys i = ys[i] := by simp [gx, show i < ys.length by omega]
  rw [ih, List.drop_eq_getElem_cons h1, List.drop_eq_getElem_cons (show i < ys.length by omega), allEq, ← h3, ← h4, h2, Bool.true_and]
 | case2 i h1 h2 =>
  have h3 : gx xs i = xs[i] := by simp [gx, h1]
  have h4 : gx ys i = ys[i] := by simp [gx, show i < ys.length by omega]
  rw [Bool.not_eq_true] at h2
  rw [List.drop_eq_getElem_cons h1, List.drop_eq_getElem_cons (show i < ys.length by omega), allEq, ← h3, ← h4, h2, Bool.false_and]; rfl
 | case3 i h1 => rw [List.drop_eq_nil_of_le (by omega)]; simp [allEq]
theorem l_eqf (p : Ex' → Ex' → Bool) (f : FuncId) (b b' : Bool) (xs ys : List Ex') (i : Nat) (ha : xs.length < 2 ^ 62) (hl : ys.length = xs.length) (hp : ∀ i, i < xs.length → callF E 0 f [(gx xs i).t, (gx ys i).t] emp = some (.sc (.bool (p (gx xs i) (gx ys i))), emp)) (hom : omT f = []) :
  Lp E 1 32 K_slices_EqualFunc_Expr_h0 K_slices_EqualFunc_Expr_b0.c ⟨[(1, gs b' 8 (ml Ex'.t ys)), (2, fnV f), (15, gs b 8 (ml Ex'.t xs)), (16, .sc (.int .i64 xs.length)), (17, .sc (.int .i64 i))], emp⟩ = some (efX p (.ret, ⟨[(6, .sc (.bool false))], emp⟩) (.exit 0, ⟨[], emp⟩) xs ys i) := by
 fun_induction efX p (.ret, ⟨[(6, .sc (.bool false))], emp⟩) (.exit 0, ⟨[], emp⟩) xs ys i <;> (rw [Lp_eq]; rw (occs := .pos [1]) [K_slices_EqualFunc_Expr_b0])
 all_goals simp (disch := omega) [*]
theorem c_eqf (p : Ex' → Ex' → Bool) (f : FuncId) (b b' : Bool) (xs ys : List Ex') (ha : xs.length < 2 ^ 62) (hb : ys.length < 2 ^ 62) (hp : ∀ i, i < xs.length → i < ys.length → callF E 0 f [(gx xs i).t, (gx ys i).t] emp = some (.sc (.bool (p (gx xs i) (gx ys i))), emp)) (hom : omT f = []) :
  callF E 0 f_slices_EqualFunc_Expr [gs b 8 (ml Ex'.t xs), gs b' 8 (ml Ex'.t ys), fnV f] emp = some (.sc (.bool (decide (xs.length = ys.length) && allEq p xs ys)), emp) := by
 by_cases h : xs.length = ys.length
 ·have hl := l_eqf p f b b' xs ys 0 ha h.symm (fun i hi => hp i hi (by omega)) hom
  rw [efX_eq _ _ _ _ _ _ h.symm, List.drop_zero, List.drop_zero] at hl
  clear hp
  try simp only [lenN, Int.cast_ofNat_Int] at *
  have h2 : decide (xs.length = ys.length) = true := by simpa using h
  clear h
  generalize allEq p xs ys = q at hl ⊢
  (refine callF_light rfl pf_slices_EqualFunc_Expr lf_slices_EqualFunc_Expr (by simp [K_slices_EqualFunc_Expr]) ?_; rw [evF_R, K_slices_EqualFunc_Expr])
  cases q <;> (try simp (disch := omega) [*]) <;> repeat' ((first | rw [RC_d] | rw [RG_d] | rw [RG_e] | rw [RC_b] | rw [RG_x] | rw [RG_y] | skip); split <;> (try (exfalso; omega)) <;> try simp (disch := omega) [*])
 ·clear hp
  (refine callF_light rfl pf_slices_EqualFunc_Expr lf_slices_EqualFunc_Expr (by simp [K_slices_EqualFunc_Expr]) ?_; rw [evF_R, K_slices_EqualFunc_Expr])
  (try simp (disch := omega) [*]) <;> repeat' ((first | rw [RC_d] | rw [RG_d] | rw [RG_e] | rw [RC_b] | rw [RG_x] | rw [RG_y] | skip); split <;> (try (exfalso; omega)) <;> try simp (disch := omega) [*])
mutual
def equal : Ex' → Ex' → Bool
 | .mk op name _ bits vs _ args _ _ _, y => decide (op = y.op) && (!(named op || decide (op = 9)) || decide (name = y.name)) && (!decide (op = 1) || (vs == y.vs && decide (bits = y.bits))) && (decide (args.length = y.args.length) && equalL args y.args)
def equalL : List Ex' → List Ex' → Bool
 | x :: xs, y :: ys => equal x y && equalL xs ys
 | _, _ => true
end
theorem equalL_all : ∀ xs ys, equalL xs ys = allEq equal xs ys
 | x :: xs, y :: ys => by rw [equalL, equalL_all xs ys]; rfl
 | [], ys => by cases ys <;> rfl
 | x :: xs, [] => rfl
theorem equal_eq (x y : Ex') : equal x y = (decide (x.op = y.op) && (!(named x.op || decide (x.op = 9)) || decide (x.name = y.name)) && (!decide (x.op = 1) || (x.vs == y.vs && decide (x.bits = y.bits))) && (decide (x.args.length = y.args.length) && allEq equal x.args y.args)) := by
 cases x; rw [equal, equalL_all]; rfl
theorem c_equal (x : Ex') : ∀ y : Ex', (size x).1 < 2 ^ 61 → (size y).1 < 2 ^ 61 → big x = false → big y = false → callF E 0 f_expr_Equal [x.t, y.t] emp = some (.sc (.bool (equal x y)), emp) := by
 refine Ex'.ind2 (P := fun x => ∀ y : Ex', (size x).1 < 2 ^ 61 → (size y).1 < 2 ^ 61 → big x = false → big y = false → callF E 0 f_expr_Equal [x.t, y.t] emp = some (.sc (.bool (equal x y)), emp)) (fun x ih y hx hy hwx hwy => ?_) x
 have h0 : x.args.length < 2 ^ 62 := by have := args_len x; omega
 have h1 : y.args.length < 2 ^ 62 := by have := args_len y; omega
 obtain ⟨_, b1, w1⟩ := big_no hwx
 obtain ⟨_, b2, w2⟩ := big_no hwy
 have b1 : x.bits.length < 2 ^ 62 := by omega
 have b2 : y.bits.length < 2 ^ 62 := by omega
 have h2 := c_eqf equal f_expr_Equal x.an y.an x.args y.args h0 h1 (fun i hi hj => ih i hi _ (by have := size_arg x i hi; omega) (by have := size_arg y i hj; omega) (bigL_mem _ w1 _ (Ex'.gx_mem _ i hi)) (bigL_mem _ w2 _ (Ex'.gx_mem _ i hj))) rfl
 rw [equal_eq]
 clear ih w1 w2 hwx hwy
 generalize (decide (x.args.length = y.args.length) && allEq equal x.args y.args) = q at h2 ⊢
 (refine callF_light rfl pf_expr_Equal lf_expr_Equal (by simp [K_expr_Equal]) ?_; rw [evF_R, K_expr_Equal])
 (try simp (disch := omega) [*]) <;> repeat' ((first | rw [RC_d] | rw [RG_d] | rw [RG_e] | rw [RC_b] | rw [RG_x] | rw [RG_y] | skip); split <;> (try (exfalso; omega)) <;> try simp (disch := omega) [*])
 all_goals simp_all
theorem l_same (b b' : Bool) (x y : List Nat) (s s' : Bool) (i : Nat) (h : y.length = x.length) (ha : x.length < 2 ^ 62) :
  Lp E 1 38 K_ref04_Same_h0 K_ref04_Same_b0.c ⟨[(2, .ptr (1, 2) 0), (3, .ptr (1, 3) 0), (5, .sc (.int .i64 i))], upd (upd emp (1, 2) (.box y_api_Vec [gs b 1 (ul x), .sc (.bool s)])) (1, 3) (.box y_api_Vec [gs b' 1 (ul y), .sc (.bool s')])⟩ =
   some (ebX (.ret, ⟨[(4, .sc (.bool false))], emp⟩) x y (upd (upd emp (1, 2) (.box y_api_Vec [gs b 1 (ul x), .sc (.bool s)])) (1, 3) (.box y_api_Vec [gs b' 1 (ul y), .sc (.bool s')])) i) := by
 fun_induction ebX (.ret, ⟨[(4, .sc (.bool false))], emp⟩) x y (upd (upd emp (1, 2) (.box y_api_Vec [gs b 1 (ul x), .sc (.bool s)])) (1, 3) (.box y_api_Vec [gs b' 1 (ul y), .sc (.bool s')])) i <;> (rw [Lp_eq]; rw (occs := .pos [1]) [K_ref04_Same_b0])
 all_goals simp (disch := omega) [*]
@[simp] theorem c_same (b b' : Bool) (x y : List Nat) (s s' : Bool) (ha : x.length < 2 ^ 62) (hb : y.length < 2 ^ 62) : callF E 0 f_ref04_Same [.agg [gs b 1 (ul x), .sc (.bool s)], .agg [gs b' 1 (ul y), .sc (.bool s')]] emp = some (.sc (.bool (s == s' && decide (x = y))), emp) := by
 by_cases h : x.length = y.length
 ·have hl := l_same b b' x y s s' 0 h.symm ha
  rw [ebX_eq _ _ _ _ _ h, List.drop_zero, List.drop_zero] at hl
  try simp only [lenN, Int.cast_ofNat_Int] at *
  have h2 : decide (x.length = y.length) = true := by simpa using h
  clear h
  generalize decide (x = y) = q at hl ⊢
  (refine callF_light rfl pf_ref04_Same lf_ref04_Same (by simp [K_ref04_Same]) ?_; rw [evF_R, K_ref04_Same])
  cases q <;> cases s <;> cases s' <;> (try simp (disch := omega) [*]) <;> repeat' ((first | rw [RC_d] | rw [RG_d] | rw [RG_e] | rw [RC_b] | rw [RG_x] | rw [RG_y] | skip); split <;> (try (exfalso; omega)) <;> try simp (disch := omega) [*])
 ·have h3 : ¬ x = y := fun e => h (by rw [e])
  (refine callF_light rfl pf_ref04_Same lf_ref04_Same (by simp [K_ref04_Same]) ?_; rw [evF_R, K_ref04_Same])
  cases s <;> cases s' <;> (try simp (disch := omega) [*]) <;> repeat' ((first | rw [RC_d] | rw [RG_d] | rw [RG_e] | rw [RC_b] | rw [RG_x] | rw [RG_y] | skip); split <;> (try (exfalso; omega)) <;> try simp (disch := omega) [*])
theorem l_is (x : Ex') (i : Nat) (ha : x.args.length < 2 ^ 62) (hp : ∀ i, i < x.args.length → callF E 0 f_ref08_Is [(gx x.args i).t, (gx x.args i).t] emp = some (.sc (.bool true), emp)) (n : Nat) (hn : n = x.args.length - i) :
  Lp E 1 75 K_ref08_Is_h0 K_ref08_Is_b0.c ⟨[(2, .ptr (1, 2) 0), (3, .ptr (1, 3) 0), (5, .sc (.int .i64 (i : Int)))], upd (upd emp (1, 2) (.box y_api_Expr x.t.cells)) (1, 3) (.box y_api_Expr x.t.cells)⟩ =
   some (.exit 0, ⟨[], upd (upd emp (1, 2) (.box y_api_Expr x.t.cells)) (1, 3) (.box y_api_Expr x.t.cells)⟩) := by
 induction n generalizing i with
 | zero =>
  have h : ¬ i < x.args.length := by omega
  clear hn
  (rw [Lp_eq]; rw (occs := .pos [1]) [K_ref08_Is_b0])
  simp (disch := omega) [*]
 | succ n ih =>
  have h : i < x.args.length := by omega
  have hc := hp i h
  have ih := ih (i + 1) (by omega)
  clear hn hp
  (rw [Lp_eq]; rw (occs := .pos [1]) [K_ref08_Is_b0])
  simp (disch := omega) [*]
theorem c_Is (x : Ex') (hx : (size x).1 < 2 ^ 61) (hb : big x = false) : callF E 0 f_ref08_Is [x.t, x.t] emp = some (.sc (.bool true), emp) := by
 refine Ex'.ind2 (P := fun x => (size x).1 < 2 ^ 61 → big x = false → callF E 0 f_ref08_Is [x.t, x.t] emp = some (.sc (.bool true), emp)) (fun x ih hx hb => ?_) x hx hb
 have h0 : x.args.length < 2 ^ 62 := by have := args_len x; omega
 obtain ⟨_, b1, w1⟩ := big_no hb
 have hl := l_is x 0 h0 (fun i hi => ih i hi (by have := size_arg x i hi; omega) (bigL_mem _ w1 _ (Ex'.gx_mem _ i hi))) _ rfl
 have hs := c_same x.bn x.bn x.bits x.bits x.vs x.vs (by omega) (by omega)
 clear ih
 try simp only [lenN, Int.cast_ofNat_Int] at *
 (refine callF_light rfl pf_ref08_Is lf_ref08_Is (by simp [K_ref08_Is]) ?_; rw [evF_R, K_ref08_Is])
 simp (disch := omega) [*]
end Go.TM.R8
namespace Go.TM.R8
open Go Go.TM Go.Proofs
theorem can_args (x : Ex') : (can x).args.length = (if x.op = 1 then 0 else x.args.length) := by
 rw [can_eq]; split
 ·rfl
 ·show (x.args.map can).length = _; simp
theorem lit_args {x : Ex'} (ok : Ok x) (h : x.op = 1) : x.args = [] := by
 have := ok.ar
 rw [h] at this
 unfold arity at this
 simpa using this
theorem sizeL_can : ∀ xs : List Ex', (∀ y ∈ xs, size (can y) = size y) → sizeL (xs.map can) = sizeL xs
 | [], _ => rfl
 | x :: xs, h => by
  rw [List.map_cons, sizeL, sizeL, h x (by simp), sizeL_can xs fun y hy => h y (List.mem_cons_of_mem _ hy)]
theorem chkL_can : ∀ xs : List Ex', (∀ y ∈ xs, chkN (can y) = 0) → chkL (xs.map can) = 0
 | [], _ => rfl
 | x :: xs, h => by
  rw [List.map_cons, chkL, h x (by simp), if_pos rfl]
  exact chkL_can xs fun y hy => h y (List.mem_cons_of_mem _ hy)
theorem allEq_can : ∀ xs : List Ex', (∀ y ∈ xs, equal y (can y) = true) → allEq equal xs (xs.map can) = true
 | [], _ => rfl
 | x :: xs, h => by
  rw [List.map_cons, allEq, h x (by simp), Bool.true_and]
  exact allEq_can xs fun y hy => h y (List.mem_cons_of_mem _ hy)
theorem chk_all {x : Ex'} (h : chkN x = 0) : ∀ y ∈ x.args, chkN y = 0 := by
 rw [chkN_eq] at h
 split at h
 ·exact chkL_all _ h
 ·rename_i h0; exact absurd h h0
theorem can_ok : ∀ x : Ex', chkN x = 0 → size (can x) = size x ∧ chkN (can x) = 0 ∧ equal x (can x) = true := by
 refine Ex'.ind3 fun x ih hk => ?_
 have ok := ok_of hk
 have hch := chk_all hk
 by_cases h1 : x.op = 1
 ·have ha := lit_args ok h1
  have hc : can x = litE false x.bits x.vs := by rw [can_eq, if_pos h1]
  rw [hc]
  refine ⟨?_, ?_, ?_⟩
  ·rw [size_eq, size_eq, ha]; rfl
  ·rw [chkN_eq]
   have : ownF (litE false x.bits x.vs) = 0 := by
    have := ok.li h1
    show (if (1 : Nat) < 1 ∨ 44 < 1 then 11 else if arity 1 0 = false then 3 else if named 1 = true ∧ ident [] = false then 3 else if (1 : Nat) = 9 ∧ sysOk [] 0 = false then 3 else if (1 : Nat) = 1 then chk x.bits else 0) = 0
    rw [this]; rfl
   rw [if_pos this]; rfl
  ·rw [equal_eq, h1, ha]
   show (decide ((1 : Nat) = 1) && (!(named 1 || decide ((1 : Nat) = 9)) || decide (x.name = [])) && (!decide ((1 : Nat) = 1) || (x.vs == x.vs && decide (x.bits = x.bits))) && (decide (([] : List Ex').length = ([] : List Ex').length) && allEq equal [] [])) = true
   simp [named, allEq]
 ·have hc : can x = .mk x.op (if named x.op = true ∨ x.op = 9 then x.name else []) true [] false x.args.isEmpty (x.args.map can) 0 0 false := by rw [can_eq, if_neg h1]
  have h2 := fun y hy => ih y hy (hch y hy)
  rw [hc]
  refine ⟨?_, ?_, ?_⟩
  ·rw [size_eq, size_eq]
   show ((sizeL (x.args.map can)).1 + 1, (sizeL (x.args.map can)).2 + 1) = _
   rw [sizeL_can _ fun y hy => (h2 y hy).1]
  ·rw [chkN_eq, if_pos]
   ·exact chkL_can _ fun y hy => (h2 y hy).2.1
   ·unfold ownF
    show (if x.op < 1 ∨ 44 < x.op then 11 else if arity x.op (x.args.map can).length = false then 3 else if named x.op = true ∧ ident (if named x.op = true ∨ x.op = 9 then x.name else []) = false then 3 else if x.op = 9 ∧ sysOk (if named x.op = true ∨ x.op = 9 then x.name else []) (x.args.map can).length = false then 3 else if x.op = 1 then chk [] else 0) = 0
    have o1 := ok.o1; have o2 := ok.o2
    rw [if_neg (by omega), List.length_map, ok.ar, if_neg (by decide), if_neg, if_neg, if_neg h1]
    ·rintro ⟨h9, hs⟩
     rw [if_pos (.inr h9), ok.sy h9] at hs
     cases hs
    ·rintro ⟨hn, hs⟩
     rw [if_pos (.inl hn), ok.nm hn] at hs
     cases hs
  ·rw [equal_eq]
   show (decide (x.op = x.op) && (!(named x.op || decide (x.op = 9)) || decide (x.name = (if named x.op = true ∨ x.op = 9 then x.name else []))) && (!decide (x.op = 1) || (x.vs == false && decide (x.bits = []))) && (decide (x.args.length = (x.args.map can).length) && allEq equal x.args (x.args.map can))) = true
   rw [allEq_can _ fun y hy => (h2 y hy).2.2, List.length_map, decide_eq_false h1]
   by_cases hn : named x.op = true ∨ x.op = 9
   ·rw [if_pos hn]; simp
   ·have : (named x.op || decide (x.op = 9)) = false := by
     rw [Bool.or_eq_false_iff]
     exact ⟨by simpa using fun e => hn (.inl e), decide_eq_false fun e => hn (.inr e)⟩
    rw [this]; simp
theorem check_can {x : Ex'} (h : checkF x = 0) : checkF (can x) = 0 := by
 unfold checkF at h ⊢
 split at h
 ·cases h
 ·rename_i hs
  obtain ⟨h1, h2, _⟩ := can_ok x h
  rw [h1, if_neg hs, h2]
theorem check_size {x : Ex'} (h : checkF x = 0) : (size x).1 ≤ 4096 ∧ (size x).2 ≤ 64 := by
 unfold checkF at h
 split at h
 ·cases h
 ·omega
theorem parse_txt {x : Ex'} (h : checkF x = 0) (hl : (txt x).length ≤ 65536) : parseF (txt x) 0 = (can x, ((txt x).length : Int), 0) := by
 have hk := check_nodes h
 have hsz := check_size h
 have he : (txt x).drop (0 + (txt x).length) = [] := List.drop_eq_nil_of_le (by omega)
 have hp := pk_end he
 have hu := una x 128 (txt x) hk hl (by omega) 0 [] (by simp) (.inl rfl) (by rw [hp]; decide)
 have hx := ex_of hu (by rw [hp]; decide)
 have e0 : at0 0 = ⟨0, 0⟩ := rfl
 rw [e0] at hx
 unfold parseF
 rw [hx]
 show (if (0 : Nat) = 0 then (if checkF (can x) = 0 then _ else _) else _) = _
 rw [if_pos rfl, if_pos (check_can h)]
 simp [at0]
theorem parse_ok {s : List UInt8} {i : Int} (h : (parseF s i).2.2 = 0) (hs : s.length ≤ 65536) : ∃ a b : Nat, i = a ∧ (parseF s i).2.1 = b ∧ a < b ∧ b ≤ s.length ∧ checkF (parseF s i).1 = 0 ∧ can (parseF s i).1 = (parseF s i).1 ∧ big (parseF s i).1 = false ∧ (txt (parseF s i).1).length ≤ 21 * s.length + 16 ∧ G s (.inl (parseF s i).1) a b := by
 have hg := (lv_su s 128).1 ⟨i, 0⟩
 unfold parseF at h ⊢
 generalize (lvF s 128).1 ⟨i, 0⟩ = r at *
 by_cases h0 : r.2.e = 0
 ·rw [if_pos h0] at h ⊢
  obtain ⟨a, b, e1, e2, e3⟩ := hg h0
  by_cases hc : checkF r.1 = 0
  ·rw [if_pos hc]
   obtain ⟨p1, p2, p3, p4, p5, p6⟩ := g_pp e3
   refine ⟨a, b, congrArg PS.a e1, by rw [e2]; rfl, p1, p2, hc, p3, p5, ?_, e3⟩
   have := p6 (check_nodes hc)
   show (txt r.1).length ≤ _
   omega
  ·rw [if_neg hc] at h; exact absurd h hc
 ·rw [if_neg h0] at h; exact absurd h h0
theorem parse_er {s : List UInt8} {i : Int} (h : (parseF s i).2.2 ≠ 0) : (parseF s i).1 = zE ∧ (parseF s i).2.1 = 0 := by
 unfold parseF at h ⊢
 generalize (lvF s 128).1 ⟨i, 0⟩ = r at *
 by_cases h0 : r.2.e = 0
 ·rw [if_pos h0] at h ⊢
  by_cases hc : checkF r.1 = 0
  ·rw [if_pos hc] at h; exact absurd rfl h
  ·rw [if_neg hc]; exact ⟨rfl, rfl⟩
 ·rw [if_neg h0]; exact ⟨rfl, rfl⟩
end Go.TM.R8
