/- Expressions: Check, by the program. -/
import Derived.Test.YtgmclgajlofljaaGreatDoorR8S
set_option linter.all false
namespace Go.TM.R8
open Go Go.TM Go.Proofs Go.TM.A8
attribute [-simp] Int.natCast_add Int.natCast_mul List.drop_one
theorem c_ident (s : List UInt8) (hs : s.length < 100000000) : callF E 0 f_expr_identifier [.sc (str s)] emp = some (.sc (.bool (ident s)), emp) := by
 have h := c_FmtId s hs
 unfold ident
 cases hq : whole s 0 && !keyword s
 ·rw [hq] at h
  simp only [Bool.false_eq_true, if_false] at h
  clear hq
  (refine callF_light rfl pf_expr_identifier lf_expr_identifier (by simp [K_expr_identifier]) ?_; rw [evF_R, K_expr_identifier])
  simp (disch := omega) [*]
 ·rw [hq] at h
  simp only [if_true] at h
  clear hq
  (refine callF_light rfl pf_expr_identifier lf_expr_identifier (by simp [K_expr_identifier]) ?_; rw [evF_R, K_expr_identifier])
  simp (disch := omega) [*]
theorem c_system (x : Ex') (h : x.args.length < 2 ^ 62) : callF E 0 f_expr_system [x.t] emp = some (.sc (.bool (sysOk x.name x.args.length)), emp) := by
 unfold sysOk
 by_cases h1 : x.name = sTime
 ·have e : (str x.name) = str sTime := by rw [h1]
  rw [h1]
  unfold sTime at h1
  (refine callF_light rfl pf_expr_system lf_expr_system (by simp [K_expr_system]) ?_; rw [evF_R, K_expr_system])
  simp (disch := omega) [sTime, sSig, sUns, *]
 by_cases h2 : x.name = sSig
 ·rw [h2]
  unfold sSig at h2
  (refine callF_light rfl pf_expr_system lf_expr_system (by simp [K_expr_system]) ?_; rw [evF_R, K_expr_system])
  simp (disch := omega) [sTime, sSig, sUns, *]
 by_cases h3 : x.name = sUns
 ·rw [h3]
  unfold sUns at h3
  (refine callF_light rfl pf_expr_system lf_expr_system (by simp [K_expr_system]) ?_; rw [evF_R, K_expr_system])
  simp (disch := omega) [sTime, sSig, sUns, *]
 rw [show decide (x.name = sTime) = false by simpa using h1, show decide (x.name = sSig) = false by simpa using h2, show decide (x.name = sUns) = false by simpa using h3]
 unfold sTime at h1; unfold sSig at h2; unfold sUns at h3
 (refine callF_light rfl pf_expr_system lf_expr_system (by simp [K_expr_system]) ?_; rw [evF_R, K_expr_system])
 simp (disch := omega) [*]
def chX (xs : List Ex') (i : Nat) (S : Store) : Ex × St := if i < xs.length then (if chkN (gx xs i) = 0 then chX xs (i + 1) S else (.ret, ⟨[(2, .sc (.int .i64 (chkN (gx xs i) : Int)))], emp⟩)) else (.exit 1, ⟨[], S⟩)
 termination_by xs.length - i
theorem chX_eq (xs : List Ex') (i : Nat) (S : Store) : chX xs i S = if chkG xs i = 0 then (.exit 1, ⟨[], S⟩) else (.ret, ⟨[(2, .sc (.int .i64 (chkG xs i : Int)))], emp⟩) := by
 fun_induction chX xs i S with
 | case1 i h h2 ih => rw [ih]; conv => rhs; rw [chkG, if_pos h, if_pos h2]
 | case2 i h h2 => rw [chkG, if_pos h, if_neg h2, if_neg h2]
 | case3 i h => rw [chkG, if_neg h]; rfl
theorem l_chk (x : Ex') (i : Nat) (ha : x.args.length < 2 ^ 62)
  (ih : ∀ i, i < x.args.length → callF E 0 f_expr_checkNodes [(gx x.args i).t] emp = some (.sc (.int .i64 (chkN (gx x.args i) : Int)), emp)) :
  Lp E 1 56 K_expr_checkNodes_h0 K_expr_checkNodes_b0.c ⟨[(44, gs x.an 8 (ml Ex'.t x.args)), (45, .sc (.int .i64 x.args.length)), (46, .sc (.int .i64 (i : Int)))], upd emp (1, 1) (.box y_api_Expr x.t.cells)⟩ =
  some (chX x.args i (upd emp (1, 1) (.box y_api_Expr x.t.cells))) := by
 fun_induction chX x.args i (upd emp (1, 1) (.box y_api_Expr x.t.cells)) <;> (rw [Lp_eq]; rw (occs := .pos [1]) [K_expr_checkNodes_b0])
 all_goals simp (disch := omega) [*]
end Go.TM.R8
namespace Go.TM.R8
open Go Go.TM Go.Proofs Go.TM.A8
attribute [-simp] Int.natCast_add Int.natCast_mul List.drop_one
theorem wideL_mem : ∀ (xs : List Ex'), wideL xs = false → ∀ x ∈ xs, wide x = false
 | [], _, x, h => by cases h
 | y :: xs, hh, x, h => by
  rw [wideL, Bool.or_eq_false_iff] at hh
  rcases List.mem_cons.1 h with rfl | h
  ·exact hh.1
  ·exact wideL_mem xs hh.2 x h
theorem wide_no {x : Ex'} (hw : wide x = false) : x.name.length ≤ 200 ∧ x.bits.length ≤ 300 ∧ wideL x.args = false := by
 have := wide_eq x
 rw [hw] at this
 have := this.symm
 simp only [Bool.or_eq_false_iff, decide_eq_false_iff_not] at this
 obtain ⟨⟨h1, h2⟩, h3⟩ := this
 rw [wdF_eq, List.drop_zero] at h3
 exact ⟨by omega, by omega, h3⟩
theorem named_cases {o : Nat} (h : o = 1 ∨ o = 9) : named o = false := by rcases h with rfl | rfl <;> rfl
def CkC (f : FuncId) (x : Ex') : Prop := (size x).1 < 900000 → wide x = false → callF E 0 f [x.t] emp = some (.sc (.int .i64 (chkN x : Int)), emp)
theorem c_checkNodes : ∀ x : Ex', CkC f_expr_checkNodes x := by
 refine Ex'.ind2 (P := CkC f_expr_checkNodes) fun x ih hs hw => ?_
 obtain ⟨w1, w2, w3⟩ := wide_no hw
 have ha : x.args.length < 2 ^ 62 := by have := args_len x; omega
 have hl := l_chk x 0 ha fun i hi => ih i hi (by have := size_arg x i hi; omega) (wideL_mem _ w3 _ (Ex'.gx_mem _ _ hi))
 rw [chX_eq, chkG_eq, List.drop_zero, show ((0 : Nat) : Int) = 0 from rfl] at hl
 have hi := c_ident x.name (by omega)
 have hy := c_system x ha
 have hc := c_Check x.bn x.vs x.bits (by omega)
 rw [chkN_eq]
 clear ih hs hw w1 w2 w3
 by_cases h1 : x.op < 1 ∨ 44 < x.op
 ·have ho : ownF x = 11 := by unfold ownF; rw [if_pos h1]
  rw [ho, if_neg (show ¬ (11 : Nat) = 0 by decide)]
  clear hl hi hy hc ho
  rcases h1 with h1 | h1
  ·(refine callF_light rfl pf_expr_checkNodes lf_expr_checkNodes (by simp [K_expr_checkNodes]) ?_; rw [evF_R, K_expr_checkNodes])
   simp (disch := omega) [*]
  ·have h2 : ¬ x.op < 1 := by omega
   (refine callF_light rfl pf_expr_checkNodes lf_expr_checkNodes (by simp [K_expr_checkNodes]) ?_; rw [evF_R, K_expr_checkNodes])
   simp (disch := omega) [*]
 have o1 : ¬ x.op < 1 := by omega
 have o2 : ¬ 44 < x.op := by omega
 by_cases h2 : arity x.op x.args.length = false
 ·have ho : ownF x = 3 := by unfold ownF; rw [if_neg h1, if_pos h2]
  rw [ho, if_neg (show ¬ (3 : Nat) = 0 by decide)]
  clear hl hi hy hc ho h1
  (refine callF_light rfl pf_expr_checkNodes lf_expr_checkNodes (by simp [K_expr_checkNodes]) ?_; rw [evF_R, K_expr_checkNodes])
  simp (disch := omega) [*]
 have a2 : arity x.op x.args.length = true := by simpa using h2
 by_cases h3 : named x.op = true ∧ ident x.name = false
 ·have ho : ownF x = 3 := by unfold ownF; rw [if_neg h1, if_neg h2, if_pos h3]
  rw [ho, if_neg (show ¬ (3 : Nat) = 0 by decide)]
  obtain ⟨h3, h4⟩ := h3
  clear hl hy hc ho h1 h2
  (refine callF_light rfl pf_expr_checkNodes lf_expr_checkNodes (by simp [K_expr_checkNodes]) ?_; rw [evF_R, K_expr_checkNodes])
  simp (disch := omega) [*]
 have g3 : named x.op = false ∨ ident x.name = true := by
  cases hn : named x.op
  ·exact .inl rfl
  ·cases hm : ident x.name
   ·exact absurd ⟨hn, hm⟩ h3
   ·exact .inr rfl
 by_cases h4 : x.op = 9
 ·have hn : named x.op = false := named_cases (.inr h4)
  have a9 := a2
  rw [h4] at a9 hn
  have hN : callF E 0 f_expr_named [.sc (.int .u8 9)] emp = some (.sc (.bool false), emp) := c_named 9
  by_cases h5 : sysOk x.name x.args.length = false
  ·have ho : ownF x = 3 := by unfold ownF; rw [if_neg h1, if_neg h2, if_neg h3, if_pos ⟨h4, h5⟩]
   rw [ho, if_neg (show ¬ (3 : Nat) = 0 by decide)]
   clear hl hc hi g3 h3 ho h1 h2
   (refine callF_light rfl pf_expr_checkNodes lf_expr_checkNodes (by simp [K_expr_checkNodes]) ?_; rw [evF_R, K_expr_checkNodes])
   simp (disch := omega) [*]
  ·have ho : ownF x = 0 := by unfold ownF; rw [if_neg h1, if_neg h2, if_neg h3, if_neg (fun h => h5 h.2), if_neg (by omega)]
   have b5 : sysOk x.name x.args.length = true := by simpa using h5
   rw [ho, if_pos rfl]
   clear hc hi g3 h3 ho h1 h2 h5
   by_cases h6 : chkL x.args = 0
   ·rw [if_pos h6] at hl
    rw [h6]
    clear h6
    (refine callF_light rfl pf_expr_checkNodes lf_expr_checkNodes (by simp [K_expr_checkNodes]) ?_; rw [evF_R, K_expr_checkNodes])
    simp (disch := omega) [*]
   ·rw [if_neg h6] at hl
    clear h6
    (refine callF_light rfl pf_expr_checkNodes lf_expr_checkNodes (by simp [K_expr_checkNodes]) ?_; rw [evF_R, K_expr_checkNodes])
    simp (disch := omega) [*]
 by_cases h5 : x.op = 1
 ·have hn : named x.op = false := named_cases (.inl h5)
  have ho : ownF x = chk x.bits := by unfold ownF; rw [if_neg h1, if_neg h2, if_neg h3, if_neg (fun h => h4 h.1), if_pos h5]
  have hz : x.args = [] := by
   rw [h5] at a2; unfold arity at a2; simpa using a2
  have hk : (if chk x.bits = 0 then chkL x.args else chk x.bits) = chk x.bits := by
   rw [hz]; split
   ·rename_i h; rw [h]; rfl
   ·rfl
  rw [ho, hk]
  have a9 := a2
  rw [h5] at a9 hn
  have hN : callF E 0 f_expr_named [.sc (.int .u8 1)] emp = some (.sc (.bool false), emp) := c_named 1
  clear hl hi hy h3 hz hk ho g3 h1 h2 h4
  (refine callF_light rfl pf_expr_checkNodes lf_expr_checkNodes (by simp [K_expr_checkNodes]) ?_; rw [evF_R, K_expr_checkNodes])
  simp (disch := omega) [*]
 have ho : ownF x = 0 := by unfold ownF; rw [if_neg h1, if_neg h2, if_neg h3, if_neg (fun h => h4 h.1), if_neg h5]
 rw [ho, if_pos rfl]
 clear ho h1 h2 h3
 by_cases h6 : chkL x.args = 0
 ·rw [if_pos h6] at hl
  rw [h6]
  clear h6 hc hy
  rcases g3 with g3 | g3
  ·(refine callF_light rfl pf_expr_checkNodes lf_expr_checkNodes (by simp [K_expr_checkNodes]) ?_; rw [evF_R, K_expr_checkNodes])
   simp (disch := omega) [*]
  ·cases hn : named x.op
   ·(refine callF_light rfl pf_expr_checkNodes lf_expr_checkNodes (by simp [K_expr_checkNodes]) ?_; rw [evF_R, K_expr_checkNodes])
    simp (disch := omega) [*]
   ·(refine callF_light rfl pf_expr_checkNodes lf_expr_checkNodes (by simp [K_expr_checkNodes]) ?_; rw [evF_R, K_expr_checkNodes])
    simp (disch := omega) [*]
 ·rw [if_neg h6] at hl
  clear h6 hc hy
  rcases g3 with g3 | g3
  ·(refine callF_light rfl pf_expr_checkNodes lf_expr_checkNodes (by simp [K_expr_checkNodes]) ?_; rw [evF_R, K_expr_checkNodes])
   simp (disch := omega) [*]
  ·cases hn : named x.op
   ·(refine callF_light rfl pf_expr_checkNodes lf_expr_checkNodes (by simp [K_expr_checkNodes]) ?_; rw [evF_R, K_expr_checkNodes])
    simp (disch := omega) [*]
   ·(refine callF_light rfl pf_expr_checkNodes lf_expr_checkNodes (by simp [K_expr_checkNodes]) ?_; rw [evF_R, K_expr_checkNodes])
    simp (disch := omega) [*]
end Go.TM.R8
namespace Go.TM.R8
open Go Go.TM Go.Proofs Go.TM.A8
attribute [-simp] Int.natCast_add Int.natCast_mul List.drop_one
theorem c_Ident (s : List UInt8) (hs : s.length < 100000000) : callF E 0 f_ref08_Ident [.sc (str s)] emp = some (.sc (.bool (ident s)), emp) := by
 have h := c_rFmtId s hs
 unfold ident
 cases hq : whole s 0 && !keyword s
 ·rw [hq] at h
  simp only [Bool.false_eq_true, if_false] at h
  clear hq
  (refine callF_light rfl pf_ref08_Ident lf_ref08_Ident (by simp [K_ref08_Ident]) ?_; rw [evF_R, K_ref08_Ident])
  simp (disch := omega) [*]
 ·rw [hq] at h
  simp only [if_true] at h
  clear hq
  (refine callF_light rfl pf_ref08_Ident lf_ref08_Ident (by simp [K_ref08_Ident]) ?_; rw [evF_R, K_ref08_Ident])
  simp (disch := omega) [*]
def wkF (xs : List Ex') (e i : Nat) : Nat := if i < xs.length then (if e = 0 then wkF xs (chkN (gx xs i)) (i + 1) else e) else e
 termination_by xs.length - i
theorem wkF_ne (xs : List Ex') (e i : Nat) (h : e ≠ 0) : wkF xs e i = e := by
 unfold wkF
 rw [if_neg h]
 split <;> rfl
theorem wkF_eq (xs : List Ex') (i : Nat) : wkF xs 0 i = chkL (xs.drop i) := by
 by_cases h : i < xs.length
 ·rw [wkF, if_pos h, if_pos rfl, List.drop_eq_getElem_cons h, chkL]
  have e1 : gx xs i = xs[i] := by simp [gx, h]
  rw [← e1]
  split
  ·rename_i h0; rw [h0]; exact wkF_eq xs (i + 1)
  ·rename_i h0; exact wkF_ne _ _ _ h0
 ·rw [wkF, if_neg h, List.drop_eq_nil_of_le (by omega)]; rfl
 termination_by xs.length - i
theorem l_walk (x : Ex') (e i : Nat) (ha : x.args.length < 2 ^ 62)
  (ih : ∀ i, i < x.args.length → callF E 0 f_ref08_walk [(gx x.args i).t] emp = some (.sc (.int .i64 (chkN (gx x.args i) : Int)), emp)) :
  Lp E 1 25 K_ref08_walk_h0 K_ref08_walk_b0.c ⟨[(1, .ptr (1, 1) 0), (3, .sc (.int .i64 (e : Int))), (4, .sc (.int .i64 (i : Int)))], upd emp (1, 1) (.box y_api_Expr x.t.cells)⟩ =
  some (.exit 0, ⟨[(3, .sc (.int .i64 (wkF x.args e i : Int)))], upd emp (1, 1) (.box y_api_Expr x.t.cells)⟩) := by
 fun_induction wkF x.args e i <;> (rw [Lp_eq]; rw (occs := .pos [1]) [K_ref08_walk_b0])
 all_goals simp (disch := omega) [*]
theorem c_own (x : Ex') (hx : x.args.length < 2 ^ 62) (hn : x.name.length < 100000000) (hb : x.bits.length < 2 ^ 62) : callF E 0 f_ref08_own [x.t] emp = some (.sc (.int .i64 (ownF x : Int)), emp) := by
 have hi := c_Ident x.name hn
 have hc := c_rCheck x.bn x.vs x.bits hb
 clear hn hb
 by_cases h1 : x.op < 1 ∨ 44 < x.op
 ·have ho : ownF x = 11 := by unfold ownF; rw [if_pos h1]
  rw [ho]
  clear hi hc ho
  rcases h1 with h1 | h1
  ·(refine callF_light rfl pf_ref08_own lf_ref08_own (by simp [K_ref08_own]) ?_; rw [evF_R, K_ref08_own])
   simp (disch := omega) [*]
  ·have h2 : ¬ x.op < 1 := by omega
   (refine callF_light rfl pf_ref08_own lf_ref08_own (by simp [K_ref08_own]) ?_; rw [evF_R, K_ref08_own])
   simp (disch := omega) [*]
 have o1 : ¬ x.op < 1 := by omega
 have o2 : ¬ 44 < x.op := by omega
 by_cases h2 : arity x.op x.args.length = false
 ·have ho : ownF x = 3 := by unfold ownF; rw [if_neg h1, if_pos h2]
  rw [ho]
  clear hi hc ho h1
  (refine callF_light rfl pf_ref08_own lf_ref08_own (by simp [K_ref08_own]) ?_; rw [evF_R, K_ref08_own])
  simp (disch := omega) [*]
 have a2 : arity x.op x.args.length = true := by simpa using h2
 by_cases h3 : named x.op = true ∧ ident x.name = false
 ·have ho : ownF x = 3 := by unfold ownF; rw [if_neg h1, if_neg h2, if_pos h3]
  rw [ho]
  obtain ⟨h3, h4⟩ := h3
  clear hc ho h1 h2
  (refine callF_light rfl pf_ref08_own lf_ref08_own (by simp [K_ref08_own]) ?_; rw [evF_R, K_ref08_own])
  simp (disch := omega) [*]
 have g3 : named x.op = false ∨ ident x.name = true := by
  cases hn : named x.op
  ·exact .inl rfl
  ·cases hm : ident x.name
   ·exact absurd ⟨hn, hm⟩ h3
   ·exact .inr rfl
 by_cases h4 : x.op = 9
 ·have hn : named x.op = false := named_cases (.inr h4)
  have a9 := a2
  rw [h4] at a9 hn
  have hN : callF E 0 f_ref08_Named [.sc (.int .u8 9)] emp = some (.sc (.bool false), emp) := c_Named 9
  have ho : ownF x = if sysOk x.name x.args.length = true then 0 else 3 := by
   unfold ownF
   rw [if_neg h1, if_neg h2, if_neg h3]
   cases sysOk x.name x.args.length <;> simp [h4]
  rw [ho]
  clear hi hc h3 g3 ho h1 h2
  unfold sysOk
  by_cases n1 : x.name = sTime
  ·rw [n1, show decide (sTime = sTime) = true from rfl, show decide (sTime = sSig) = false from rfl, show decide (sTime = sUns) = false from rfl]
   unfold sTime at n1
   by_cases n0 : x.args.length = 0
   ·rw [show decide (x.args.length = 0) = true by simpa using n0]
    simp only [Bool.and_self, Bool.true_or, if_true]
    rw [n0] at a9
    (refine callF_light rfl pf_ref08_own lf_ref08_own (by simp [K_ref08_own]) ?_; rw [evF_R, K_ref08_own])
    simp (disch := omega) [*]
   ·rw [show decide (x.args.length = 0) = false by simpa using n0]
    simp only [Bool.and_false, Bool.false_and, Bool.or_self, Bool.false_eq_true, if_false]
    (refine callF_light rfl pf_ref08_own lf_ref08_own (by simp [K_ref08_own]) ?_; rw [evF_R, K_ref08_own])
    simp (disch := omega) [*]
  by_cases n2 : x.name = sSig
  ·rw [n2, show decide (sSig = sTime) = false from rfl, show decide (sSig = sSig) = true from rfl]
   unfold sTime at n1; unfold sSig at n2
   by_cases n0 : x.args.length = 1
   ·rw [show decide (x.args.length = 1) = true by simpa using n0]
    simp only [Bool.false_and, Bool.true_or, Bool.and_self, Bool.or_true, if_true]
    rw [n0] at a9
    (refine callF_light rfl pf_ref08_own lf_ref08_own (by simp [K_ref08_own]) ?_; rw [evF_R, K_ref08_own])
    simp (disch := omega) [*]
   ·rw [show decide (x.args.length = 1) = false by simpa using n0]
    simp only [Bool.and_false, Bool.false_and, Bool.or_self, Bool.false_eq_true, if_false]
    (refine callF_light rfl pf_ref08_own lf_ref08_own (by simp [K_ref08_own]) ?_; rw [evF_R, K_ref08_own])
    simp (disch := omega) [*]
  by_cases n3 : x.name = sUns
  ·rw [n3, show decide (sUns = sTime) = false from rfl, show decide (sUns = sSig) = false from rfl, show decide (sUns = sUns) = true from rfl]
   unfold sTime at n1; unfold sSig at n2; unfold sUns at n3
   by_cases n0 : x.args.length = 1
   ·rw [show decide (x.args.length = 1) = true by simpa using n0]
    simp only [Bool.false_and, Bool.or_true, Bool.true_or, Bool.and_self, if_true]
    rw [n0] at a9
    (refine callF_light rfl pf_ref08_own lf_ref08_own (by simp [K_ref08_own]) ?_; rw [evF_R, K_ref08_own])
    simp (disch := omega) [*]
   ·rw [show decide (x.args.length = 1) = false by simpa using n0]
    simp only [Bool.and_false, Bool.false_and, Bool.or_self, Bool.false_eq_true, if_false]
    (refine callF_light rfl pf_ref08_own lf_ref08_own (by simp [K_ref08_own]) ?_; rw [evF_R, K_ref08_own])
    simp (disch := omega) [*]
  rw [show decide (x.name = sTime) = false by simpa using n1, show decide (x.name = sSig) = false by simpa using n2, show decide (x.name = sUns) = false by simpa using n3]
  unfold sTime at n1; unfold sSig at n2; unfold sUns at n3
  simp only [Bool.false_and, Bool.or_self, Bool.false_eq_true, if_false]
  (refine callF_light rfl pf_ref08_own lf_ref08_own (by simp [K_ref08_own]) ?_; rw [evF_R, K_ref08_own])
  simp (disch := omega) [*]
 by_cases h5 : x.op = 1
 ·have hn : named x.op = false := named_cases (.inl h5)
  have ho : ownF x = chk x.bits := by unfold ownF; rw [if_neg h1, if_neg h2, if_neg h3, if_neg (fun h => h4 h.1), if_pos h5]
  rw [ho]
  have a9 := a2
  rw [h5] at a9 hn
  have hN : callF E 0 f_ref08_Named [.sc (.int .u8 1)] emp = some (.sc (.bool false), emp) := c_Named 1
  clear hi h3 g3 ho h1 h2 h4
  (refine callF_light rfl pf_ref08_own lf_ref08_own (by simp [K_ref08_own]) ?_; rw [evF_R, K_ref08_own])
  simp (disch := omega) [*]
 have ho : ownF x = 0 := by unfold ownF; rw [if_neg h1, if_neg h2, if_neg h3, if_neg (fun h => h4 h.1), if_neg h5]
 rw [ho]
 clear hc ho h1 h2 h3
 rcases g3 with h3 | h3
 ·(refine callF_light rfl pf_ref08_own lf_ref08_own (by simp [K_ref08_own]) ?_; rw [evF_R, K_ref08_own])
  simp (disch := omega) [*]
 ·cases hn : named x.op
  ·(refine callF_light rfl pf_ref08_own lf_ref08_own (by simp [K_ref08_own]) ?_; rw [evF_R, K_ref08_own])
   simp (disch := omega) [*]
  ·(refine callF_light rfl pf_ref08_own lf_ref08_own (by simp [K_ref08_own]) ?_; rw [evF_R, K_ref08_own])
   simp (disch := omega) [*]
theorem c_walk : ∀ x : Ex', CkC f_ref08_walk x := by
 refine Ex'.ind2 (P := CkC f_ref08_walk) fun x ih hs hw => ?_
 obtain ⟨w1, w2, w3⟩ := wide_no hw
 have ha : x.args.length < 2 ^ 62 := by have := args_len x; omega
 have hl := fun e => l_walk x e 0 ha fun i hi => ih i hi (by have := size_arg x i hi; omega) (wideL_mem _ w3 _ (Ex'.gx_mem _ _ hi))
 have hl := hl (ownF x)
 have ho := c_own x ha (by omega) (by omega)
 have e : chkN x = wkF x.args (ownF x) 0 := by
  rw [chkN_eq]
  split
  ·rename_i h; rw [h, wkF_eq, List.drop_zero]
  ·rename_i h; rw [wkF_ne _ _ _ h]
 rw [e]
 rw [show ((0 : Nat) : Int) = 0 from rfl] at hl
 generalize wkF x.args (ownF x) 0 = z at *
 generalize ownF x = q at *
 clear ih hs hw w1 w2 w3 e
 (refine callF_light rfl pf_ref08_walk lf_ref08_walk (by simp [K_ref08_walk]) ?_; rw [evF_R, K_ref08_walk])
 simp (disch := omega) [*]
theorem c_Check8 (x : Ex') (hs : (size x).1 < 900000) (hw : wide x = false) : callF E 0 f_expr_Check [x.t] emp = some (.sc (.int .i64 (checkF x : Int)), emp) := by
 have h1 := c_size x (by omega)
 have h2 := c_checkNodes x hs hw
 unfold checkF
 by_cases h3 : 4096 < (size x).1
 ·rw [if_pos (.inl h3)]
  clear h2 hs hw
  (refine callF_light rfl pf_expr_Check lf_expr_Check (by simp [K_expr_Check]) ?_; rw [evF_R, K_expr_Check])
  simp (disch := omega) [*]
 by_cases h4 : 64 < (size x).2
 ·rw [if_pos (.inr h4)]
  clear h2 hs hw
  (refine callF_light rfl pf_expr_Check lf_expr_Check (by simp [K_expr_Check]) ?_; rw [evF_R, K_expr_Check])
  simp (disch := omega) [*]
 ·rw [if_neg (by omega)]
  clear hs hw
  (refine callF_light rfl pf_expr_Check lf_expr_Check (by simp [K_expr_Check]) ?_; rw [evF_R, K_expr_Check])
  simp (disch := omega) [*]
theorem c_rCheck8 (x : Ex') (hs : (size x).1 < 900000) (hw : wide x = false) : callF E 0 f_ref08_Check [x.t] emp = some (.sc (.int .i64 (checkF x : Int)), emp) := by
 have h1 := c_rsize x (by omega)
 have h2 := c_walk x hs hw
 unfold checkF
 by_cases h3 : 4096 < (size x).1
 ·rw [if_pos (.inl h3)]
  clear h2 hs hw
  (refine callF_light rfl pf_ref08_Check lf_ref08_Check (by simp [K_ref08_Check]) ?_; rw [evF_R, K_ref08_Check])
  simp (disch := omega) [*]
 by_cases h4 : 64 < (size x).2
 ·rw [if_pos (.inr h4)]
  clear h2 hs hw
  (refine callF_light rfl pf_ref08_Check lf_ref08_Check (by simp [K_ref08_Check]) ?_; rw [evF_R, K_ref08_Check])
  simp (disch := omega) [*]
 ·rw [if_neg (by omega)]
  clear hs hw
  (refine callF_light rfl pf_ref08_Check lf_ref08_Check (by simp [K_ref08_Check]) ?_; rw [evF_R, K_ref08_Check])
  simp (disch := omega) [*]
end Go.TM.R8
