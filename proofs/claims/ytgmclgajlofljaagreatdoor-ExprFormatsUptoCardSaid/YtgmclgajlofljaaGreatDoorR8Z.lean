/- Expressions: how long a text is. -/
import Derived.Test.YtgmclgajlofljaaGreatDoorR8V
import Derived.Test.YtgmclgajlofljaaGreatDoorR8W
set_option linter.all false
namespace Go.TM.R8
open Go Go.TM Go.Proofs Go.TM.A8
def sumF : List (List (List UInt8)) → Nat
 | [] => 0
 | a :: qs => a.flatten.length + sumF qs
theorem arnd_len : ∀ (a : List (List (List UInt8))) (ts : List (List UInt8)), (arnd a ts).flatten.length ≤ ts.flatten.length + sumF a
 | a, [] => by cases a <;> simp [arnd]
 | [], t :: ts => by have := arnd_len [] ts; simp [arnd] at this ⊢; omega
 | a :: qs, t :: ts => by have := arnd_len qs ts; simp [arnd, sumF] at this ⊢; omega
theorem lstP_len : ∀ (a : List (List (List UInt8))) (b : Bool), (lstP a b).flatten.length ≤ 2 * a.length + sumF a
 | [], b => by cases b <;> simp [lstP]
 | a :: qs, true => by have := lstP_len qs false; simp [lstP, sumF] at this ⊢; omega
 | a :: qs, false => by have := lstP_len qs false; simp [lstP, sumF] at this ⊢; omega
theorem sel_len : ∀ a : List (List (List UInt8)), (a.map fun p => [91] :: (p ++ [[93]])).flatten.flatten.length = 2 * a.length + sumF a
 | [] => rfl
 | a :: qs => by have := sel_len qs; simp [sumF] at this ⊢; omega
theorem sumF_take (a : List (List (List UInt8))) (k : Nat) : sumF (a.take k) + sumF (a.drop k) = sumF a := by
 induction a generalizing k with
 | nil => simp [sumF]
 | cons x a ih => cases k with
  | zero => simp [sumF]
  | succ k => have := ih k; simp only [List.take_succ_cons, List.drop_succ_cons, sumF]; omega
theorem sym_len : (∀ i, (unSym.getD i []).length ≤ 2) ∧ ∀ i, (biSym.getD i []).length ≤ 3 := by
 constructor
 ·intro i
  rw [List.getD_eq_getElem?_getD]
  by_cases h : i < unSym.length
  ·rw [List.getElem?_eq_getElem h]
   have : ∀ x ∈ unSym, x.length ≤ 2 := by decide
   exact this _ (List.getElem_mem h)
  ·rw [List.getElem?_eq_none (by omega)]; simp
 ·intro i
  rw [List.getD_eq_getElem?_getD]
  by_cases h : i < biSym.length
  ·rw [List.getElem?_eq_getElem h]
   have : ∀ x ∈ biSym, x.length ≤ 3 := by decide
   exact this _ (List.getElem_mem h)
  ·rw [List.getElem?_eq_none (by omega)]; simp
theorem node_len (op : Nat) (name : List UInt8) (bits : List Nat) (vs : Bool) (a : List (List (List UInt8))) (h : op = 1 → chk bits = 0) :
  (node op name bits vs a).flatten.length ≤ name.length + 420 + 2 * a.length + sumF a := by
 have A := arnd_len a
 have L := lstP_len a true
 unfold node
 by_cases hc0 : op = 1
 ·rw [if_pos hc0]
  have := (numF_pos (sg := vs) (h hc0)).2; simp only [List.flatten_cons, List.flatten_nil, List.flatten_append, List.length_append, List.length_cons, List.length_nil, List.append_nil]; omega
 rw [if_neg hc0]
 by_cases hc1 : op = 2
 ·rw [if_pos hc1]
  simp only [List.flatten_cons, List.flatten_nil, List.flatten_append, List.length_append, List.length_cons, List.length_nil, List.append_nil]; omega
 rw [if_neg hc1]
 by_cases hc2 : op = 3
 ·rw [if_pos hc2]
  have := sel_len a; simp only [List.flatten_cons, List.length_append]; omega
 rw [if_neg hc2]
 by_cases hc3 : op = 4
 ·rw [if_pos hc3]
  have := A [name ++ [91], [58], [93]]; simp only [List.flatten_cons, List.flatten_nil, List.flatten_append, List.length_append, List.length_cons, List.length_nil, List.append_nil] at this ⊢; omega
 rw [if_neg hc3]
 by_cases hc4 : op = 5
 ·rw [if_pos hc4]
  have := A [name ++ [91], [43, 58], [93]]; simp only [List.flatten_cons, List.flatten_nil, List.flatten_append, List.length_append, List.length_cons, List.length_nil, List.append_nil] at this ⊢; omega
 rw [if_neg hc4]
 by_cases hc5 : op = 6
 ·rw [if_pos hc5]
  simp only [List.flatten_cons, List.flatten_nil, List.flatten_append, List.length_append, List.length_cons, List.length_nil, List.append_nil] at L ⊢; omega
 rw [if_neg hc5]
 by_cases hc6 : op = 7
 ·rw [if_pos hc6]
  have h1 := arnd_len (a.take 1) [[123], [123]]
  have h2 := lstP_len (a.drop 1) true
  have h3 := sumF_take a 1
  have h4 : (a.drop 1).length ≤ a.length := by simp
  simp only [List.flatten_cons, List.flatten_nil, List.flatten_append, List.length_append, List.length_cons, List.length_nil, List.append_nil] at h1 h2 h4 ⊢; omega
 rw [if_neg hc6]
 by_cases hc7 : op = 8
 ·rw [if_pos hc7]
  simp only [List.flatten_cons, List.flatten_nil, List.flatten_append, List.length_append, List.length_cons, List.length_nil, List.append_nil] at L ⊢; omega
 rw [if_neg hc7]
 by_cases hc8 : op = 9
 ·rw [if_pos hc8]
  split
  ·simp only [List.flatten_cons, List.flatten_nil, List.flatten_append, List.length_append, List.length_cons, List.length_nil, List.append_nil]; omega
  ·have := A [[40], [41]]; simp only [List.flatten_cons, List.flatten_nil, List.flatten_append, List.length_append, List.length_cons, List.length_nil, List.append_nil] at this ⊢; omega
 rw [if_neg hc8]
 by_cases hc9 : op = 10
 ·rw [if_pos hc9]
  have := A [[40], [32, 63, 32], [32, 58, 32], [41]]; simp only [List.flatten_cons, List.flatten_nil, List.flatten_append, List.length_append, List.length_cons, List.length_nil, List.append_nil] at this ⊢; omega
 rw [if_neg hc9]
 by_cases hc10 : op < 21
 ·rw [if_pos hc10]
  have := A [[40] ++ unSym.getD (op - 11) [], [41]]; have := sym_len.1 (op - 11); simp only [List.flatten_cons, List.flatten_nil, List.flatten_append, List.length_append, List.length_cons, List.length_nil, List.append_nil] at *; omega
 rw [if_neg hc10]
 have := A [[40], [32] ++ biSym.getD (op - 21) [] ++ [32], [41]]; have := sym_len.2 (op - 21); simp only [List.flatten_cons, List.flatten_nil, List.flatten_append, List.length_append, List.length_cons, List.length_nil, List.append_nil] at *; omega
theorem txt_len : ∀ x : Ex', wide x = false → chkN x = 0 → (txt x).length + 2 ≤ 1000 * (size x).1 := by
 refine Ex'.ind3 fun x ih hw hk => ?_
 have ok := ok_of hk
 have hk2 : chkL x.args = 0 := by
  rw [chkN_eq] at hk
  split at hk
  ·exact hk
  ·rename_i h0; exact absurd hk h0
 have hw2 : x.name.length ≤ 200 ∧ wideL x.args = false := by
  have := wide_eq x
  rw [hw] at this
  have := this.symm
  simp only [Bool.or_eq_false_iff, decide_eq_false_iff_not] at this
  obtain ⟨⟨h1, h2⟩, h3⟩ := this
  rw [wdF_eq, List.drop_zero] at h3
  exact ⟨by omega, h3⟩
 have hs : ∀ xs : List Ex', (∀ y ∈ xs, (txt y).length + 2 ≤ 1000 * (size y).1) → sumF (xs.map pc) + 2 * xs.length ≤ 1000 * (sizeL xs).1 := by
  intro xs
  induction xs with
  | nil => intro _; simp [sumF]
  | cons y xs h =>
   intro hh
   have h1 := h fun z hz => hh z (List.mem_cons_of_mem _ hz)
   have h2 := hh y (by simp)
   simp only [List.map_cons, sumF, List.length_cons, sizeL]
   unfold txt at h2
   omega
 have h1 := hs x.args fun y hy => ih y hy (wideL_mem _ hw2.2 y hy) (chkL_all _ hk2 y hy)
 have h2 := node_len x.op x.name x.bits x.vs (x.args.map pc) ok.li
 unfold txt
 rw [pc_eq, size_eq]
 simp only [List.length_map] at h2 ⊢
 omega
attribute [-simp] Int.natCast_add Int.natCast_mul List.drop_one
def TxC (x : Ex') : Prop := (size x).1 < 900000 → wide x = false → chkN x = 0 → callF E 0 f_ref08_Text [x.t] emp = some (.sc (str (txt x)), emp)
def sepS (i : Nat) (s : List UInt8) : List UInt8 := if i = 0 then s else s ++ [44, 32]
theorem sepS_0 (s : List UInt8) : sepS 0 s = s := rfl
theorem sepS_s {i : Nat} (s : List UInt8) (h : ¬ i = 0) : sepS i s = s ++ [44, 32] := if_neg h
def rlF (xs : List Ex') (s : List UInt8) (i : Nat) : List UInt8 := if i < xs.length then rlF xs (sepS i s ++ txt (gx xs i)) (i + 1) else s
 termination_by xs.length - i
theorem rlF_ge (xs : List Ex') (s : List UInt8) (i : Nat) : s.length ≤ (rlF xs s i).length := by
 fun_induction rlF xs s i with
 | case1 s i h ih =>
  have e : s.length ≤ (sepS i s).length := by unfold sepS; split <;> simp
  simp only [List.length_append] at ih; omega
 | case2 => omega
theorem rlF_eq (xs : List Ex') (s : List UInt8) (i : Nat) : rlF xs s i = s ++ (lstP ((xs.drop i).map pc) (decide (i = 0))).flatten := by
 fun_induction rlF xs s i with
 | case1 s i h ih =>
  rw [ih, List.drop_eq_getElem_cons h]
  have e1 : gx xs i = xs[i] := by simp [gx, h]
  rw [e1, List.map_cons, show decide (i + 1 = 0) = false by simp]
  by_cases h0 : i = 0
  ·subst h0; simp [lstP, txt, sepS_0]
  ·rw [sepS_s _ h0, show decide (i = 0) = false by simpa using h0]; simp [lstP, txt]
 | case2 s i h =>
  rw [List.drop_eq_nil_of_le (by omega)]
  cases decide (i = 0) <;> simp [lstP]
theorem l_rlist (b : Bool) (xs : List Ex') (s : List UInt8) (i : Nat) (hm : xs.length < 1000000) (hw : ∀ j, j < xs.length → callF E 0 f_ref08_Text [(gx xs j).t] emp = some (.sc (str (txt (gx xs j))), emp)) (hl : (rlF xs s i).length < 1099511627776) :
  Lp E 1 23 K_ref08_list_h0 K_ref08_list_b0.c ⟨[(0, gs b 8 (ml Ex'.t xs)), (3, .sc (str s)), (4, .sc (.int .i64 (i : Int)))], emp⟩ = some (.exit 0, ⟨[(3, .sc (str (rlF xs s i)))], emp⟩) := by
 fun_induction rlF xs s i
 case case1 s i h ih =>
  have hg := rlF_ge xs (sepS i s ++ txt (gx xs i)) (i + 1)
  have ih := ih hl
  have hd := hw i h
  by_cases h0 : i = 0
  ·subst h0
   simp only [sepS_0, List.length_append] at ih hg hl ⊢
   have k2 := bin_cat2 s (txt (gx xs 0)) (by omega)
   generalize rlF xs (s ++ txt (gx xs 0)) (0 + 1) = z at *
   clear hg hl hw
   try simp only [lenN, Int.cast_ofNat_Int] at *
   (rw [Lp_eq]; rw (occs := .pos [1]) [K_ref08_list_b0])
   simp (disch := omega) [*]
  ·rw [sepS_s _ h0] at ih hg hl ⊢
   simp only [List.length_append] at hg
   have k1 := bin_cat2 s [44, 32] (by simp only [List.length_append, List.length_cons, List.length_nil] at hg ⊢; omega)
   have k2 := bin_cat2 (s ++ [44, 32]) (txt (gx xs i)) (by simp only [List.length_append, List.length_cons, List.length_nil] at hg ⊢; omega)
   have h0 : 0 < i := by omega
   generalize rlF xs (s ++ [44, 32] ++ txt (gx xs i)) (i + 1) = z at *
   rw [List.append_assoc] at ih
   simp only [List.cons_append, List.nil_append] at ih
   clear hg hl hw
   (rw [Lp_eq]; rw (occs := .pos [1]) [K_ref08_list_b0])
   simp (disch := omega) [*]
 case case2 s i h =>
  clear hl hw
  (rw [Lp_eq]; rw (occs := .pos [1]) [K_ref08_list_b0])
  simp (disch := omega) [*]
theorem c_rlist (b : Bool) (xs : List Ex') (hm : xs.length < 1000000) (hw : ∀ j, j < xs.length → callF E 0 f_ref08_Text [(gx xs j).t] emp = some (.sc (str (txt (gx xs j))), emp)) (hl : (lstP (xs.map pc) true).flatten.length < 1099511627776) :
  callF E 0 f_ref08_list [gs b 8 (ml Ex'.t xs)] emp = some (.sc (str (lstP (xs.map pc) true).flatten), emp) := by
 have h := l_rlist b xs [] 0 hm hw (by rw [rlF_eq, List.drop_zero, List.nil_append]; exact hl)
 rw [rlF_eq, List.drop_zero, List.nil_append, show ((0 : Nat) : Int) = 0 from rfl] at h
 have e0 : decide ((0 : Nat) = 0) = true := rfl
 rw [e0] at h
 generalize (lstP (xs.map pc) true).flatten = z at *
 clear hl hw
 try simp only [lenN, Int.cast_ofNat_Int] at *
 (refine callF_light rfl pf_ref08_list lf_ref08_list (by simp [K_ref08_list]) ?_; rw [evF_R, K_ref08_list])
 simp (disch := omega) [*]
end Go.TM.R8
namespace Go.TM.R8
open Go Go.TM Go.Proofs Go.TM.A8
attribute [-simp] Int.natCast_add Int.natCast_mul List.drop_one
theorem map1 {xs : List Ex'} (h : xs.length = 1) : xs.map pc = [pc (gx xs 0)] := by
 match xs, h with
 | [a], _ => rfl
theorem map2 {xs : List Ex'} (h : xs.length = 2) : xs.map pc = [pc (gx xs 0), pc (gx xs 1)] := by
 match xs, h with
 | [a, b], _ => rfl
theorem map3 {xs : List Ex'} (h : xs.length = 3) : xs.map pc = [pc (gx xs 0), pc (gx xs 1), pc (gx xs 2)] := by
 match xs, h with
 | [a, b, c], _ => rfl
theorem wr8 (n : Nat) (h : n < 128) : IntKind.u8.wrap (n : Int) = (n : Int) := by
 unfold IntKind.wrap
 simp [IntKind.bits, IntKind.signed]
 omega
theorem c_Unary : callF E 0 f_ref08_Unary [] emp = some (.lst 1 (ml strT unSym), emp) := by
 (refine callF_light rfl pf_ref08_Unary lf_ref08_Unary (by simp [K_ref08_Unary]) ?_; rw [evF_R, K_ref08_Unary])
 simp (maxSteps := 1000000) (disch := omega) [unSym, ml, strT, *]
theorem c_Binary : callF E 0 f_ref08_Binary [] emp = some (.lst 1 (ml strT biSym), emp) := by
 (refine callF_light rfl pf_ref08_Binary lf_ref08_Binary (by simp [K_ref08_Binary]) ?_; rw [evF_R, K_ref08_Binary])
 simp (maxSteps := 1000000) (disch := omega) [biSym, ml, strT, *]
set_option maxHeartbeats 4000000 in
theorem txC : ∀ x : Ex', TxC x := by
 refine Ex'.ind2 (P := TxC) fun x ih hs hw hk => ?_
 have ok := ok_of hk
 obtain ⟨w1, w2, w3⟩ := wide_no hw
 have hm : x.args.length < 1000000 := by have := args_len x; omega
 have hT : ∀ j, j < x.args.length → callF E 0 f_ref08_Text [(gx x.args j).t] emp = some (.sc (str (txt (gx x.args j))), emp) := fun j hj => ih j hj (by have := size_arg x j hj; omega) (wideL_mem _ w3 _ (Ex'.gx_mem _ _ hj)) (ok.ch j hj)
 have hB : ∀ j, j < x.args.length → (txt (gx x.args j)).length ≤ 1000000000 := fun j hj => by
  have h1 := txt_len _ (wideL_mem _ w3 _ (Ex'.gx_mem _ _ hj)) (ok.ch j hj)
  have h2 := size_arg x j hj
  omega
 have hA := txt_len x hw hk
 have hx : (txt x).length ≤ 1000000000 := by omega
 clear ih hs hw hk w2 w3 hA
 by_cases h1 : x.op = 1
 ·have hf := c_rFmtNum x.bn x.vs x.bits (ok.li h1)
  have he : txt x = (numF x.bits x.vs).1 := by
   unfold txt
   rw [pc_eq, h1]
   simp [node]
  rw [he]
  generalize (numF x.bits x.vs).1 = t at *
  clear hT hB ok hx he
  (refine callF_light rfl pf_ref08_Text lf_ref08_Text (by simp [K_ref08_Text]) ?_; rw [evF_R, K_ref08_Text])
  simp (maxSteps := 1000000) (disch := omega) [*]
 by_cases h2 : x.op = 2
 ·have he : txt x = x.name := by
   unfold txt
   rw [pc_eq, h2]
   simp [node, arnd, txt]
  rw [he]
  clear he hx
  clear hT hB ok
  (refine callF_light rfl pf_ref08_Text lf_ref08_Text (by simp [K_ref08_Text]) ?_; rw [evF_R, K_ref08_Text])
  simp (maxSteps := 1000000) (disch := omega) [*]
 by_cases h3 : x.op = 3
 ·have h12 : x.args.length = 1 ∨ x.args.length = 2 := by have := ok.ar; rw [h3] at this; unfold arity at this; simpa using this
  rcases h12 with hn | hn
  ·have he : txt x = (((x.name) ++ [91]) ++ txt (gx x.args 0)) ++ [93] := by
    unfold txt
    rw [pc_eq, h3, map1 hn]
    simp [node, arnd, txt]
   have T0 := hT 0 (by omega)
   have b0 := hB 0 (by omega)
   rw [he]
   clear he hx
   generalize txt (gx x.args 0) = t0 at *
   have k1 := bin_cat2 (x.name) [91] (by simp only [List.length_append, List.length_cons, List.length_nil] at *; omega)
   have k2 := bin_cat2 ((x.name) ++ [91]) (t0) (by simp only [List.length_append, List.length_cons, List.length_nil] at *; omega)
   have k3 := bin_cat2 (((x.name) ++ [91]) ++ t0) [93] (by simp only [List.length_append, List.length_cons, List.length_nil] at *; omega)
   clear hT hB ok b0
   simp only [List.append_assoc, List.cons_append, List.nil_append] at k1 k2 k3 ⊢
   (refine callF_light rfl pf_ref08_Text lf_ref08_Text (by simp [K_ref08_Text]) ?_; rw [evF_R, K_ref08_Text])
   simp (maxSteps := 1000000) (disch := omega) [*]
  ·have he : txt x = ((((((x.name) ++ [91]) ++ txt (gx x.args 0)) ++ [93]) ++ [91]) ++ txt (gx x.args 1)) ++ [93] := by
    unfold txt
    rw [pc_eq, h3, map2 hn]
    simp [node, arnd, txt]
   have T0 := hT 0 (by omega)
   have b0 := hB 0 (by omega)
   have T1 := hT 1 (by omega)
   have b1 := hB 1 (by omega)
   rw [he]
   clear he hx
   generalize txt (gx x.args 0) = t0 at *
   generalize txt (gx x.args 1) = t1 at *
   have k1 := bin_cat2 (x.name) [91] (by simp only [List.length_append, List.length_cons, List.length_nil] at *; omega)
   have k2 := bin_cat2 ((x.name) ++ [91]) (t0) (by simp only [List.length_append, List.length_cons, List.length_nil] at *; omega)
   have k3 := bin_cat2 (((x.name) ++ [91]) ++ t0) [93] (by simp only [List.length_append, List.length_cons, List.length_nil] at *; omega)
   have k4 := bin_cat2 ((((x.name) ++ [91]) ++ t0) ++ [93]) [91] (by simp only [List.length_append, List.length_cons, List.length_nil] at *; omega)
   have k5 := bin_cat2 (((((x.name) ++ [91]) ++ t0) ++ [93]) ++ [91]) (t1) (by simp only [List.length_append, List.length_cons, List.length_nil] at *; omega)
   have k6 := bin_cat2 ((((((x.name) ++ [91]) ++ t0) ++ [93]) ++ [91]) ++ t1) [93] (by simp only [List.length_append, List.length_cons, List.length_nil] at *; omega)
   clear hT hB ok b0 b1
   simp only [List.append_assoc, List.cons_append, List.nil_append] at k1 k2 k3 k4 k5 k6 ⊢
   (refine callF_light rfl pf_ref08_Text lf_ref08_Text (by simp [K_ref08_Text]) ?_; rw [evF_R, K_ref08_Text])
   simp (maxSteps := 1000000) (disch := omega) [*]
 by_cases h4 : x.op = 4
 ·have hn : x.args.length = 2 := by have := ok.ar; rw [h4] at this; unfold arity at this; simpa using this
  have he : txt x = (((((x.name) ++ [91]) ++ txt (gx x.args 0)) ++ [58]) ++ txt (gx x.args 1)) ++ [93] := by
   unfold txt
   rw [pc_eq, h4, map2 hn]
   simp [node, arnd, txt]
  have T0 := hT 0 (by omega)
  have b0 := hB 0 (by omega)
  have T1 := hT 1 (by omega)
  have b1 := hB 1 (by omega)
  rw [he]
  clear he hx
  generalize txt (gx x.args 0) = t0 at *
  generalize txt (gx x.args 1) = t1 at *
  have k1 := bin_cat2 (x.name) [91] (by simp only [List.length_append, List.length_cons, List.length_nil] at *; omega)
  have k2 := bin_cat2 ((x.name) ++ [91]) (t0) (by simp only [List.length_append, List.length_cons, List.length_nil] at *; omega)
  have k3 := bin_cat2 (((x.name) ++ [91]) ++ t0) [58] (by simp only [List.length_append, List.length_cons, List.length_nil] at *; omega)
  have k4 := bin_cat2 ((((x.name) ++ [91]) ++ t0) ++ [58]) (t1) (by simp only [List.length_append, List.length_cons, List.length_nil] at *; omega)
  have k5 := bin_cat2 (((((x.name) ++ [91]) ++ t0) ++ [58]) ++ t1) [93] (by simp only [List.length_append, List.length_cons, List.length_nil] at *; omega)
  clear hT hB ok b0 b1
  simp only [List.append_assoc, List.cons_append, List.nil_append] at k1 k2 k3 k4 k5 ⊢
  (refine callF_light rfl pf_ref08_Text lf_ref08_Text (by simp [K_ref08_Text]) ?_; rw [evF_R, K_ref08_Text])
  simp (maxSteps := 1000000) (disch := omega) [*]
 by_cases h5 : x.op = 5
 ·have hn : x.args.length = 2 := by have := ok.ar; rw [h5] at this; unfold arity at this; simpa using this
  have he : txt x = (((((x.name) ++ [91]) ++ txt (gx x.args 0)) ++ [43, 58]) ++ txt (gx x.args 1)) ++ [93] := by
   unfold txt
   rw [pc_eq, h5, map2 hn]
   simp [node, arnd, txt]
  have T0 := hT 0 (by omega)
  have b0 := hB 0 (by omega)
  have T1 := hT 1 (by omega)
  have b1 := hB 1 (by omega)
  rw [he]
  clear he hx
  generalize txt (gx x.args 0) = t0 at *
  generalize txt (gx x.args 1) = t1 at *
  have k1 := bin_cat2 (x.name) [91] (by simp only [List.length_append, List.length_cons, List.length_nil] at *; omega)
  have k2 := bin_cat2 ((x.name) ++ [91]) (t0) (by simp only [List.length_append, List.length_cons, List.length_nil] at *; omega)
  have k3 := bin_cat2 (((x.name) ++ [91]) ++ t0) ([43, 58]) (by simp only [List.length_append, List.length_cons, List.length_nil] at *; omega)
  have k4 := bin_cat2 ((((x.name) ++ [91]) ++ t0) ++ [43, 58]) (t1) (by simp only [List.length_append, List.length_cons, List.length_nil] at *; omega)
  have k5 := bin_cat2 (((((x.name) ++ [91]) ++ t0) ++ [43, 58]) ++ t1) [93] (by simp only [List.length_append, List.length_cons, List.length_nil] at *; omega)
  clear hT hB ok b0 b1
  simp only [List.append_assoc, List.cons_append, List.nil_append] at k1 k2 k3 k4 k5 ⊢
  (refine callF_light rfl pf_ref08_Text lf_ref08_Text (by simp [K_ref08_Text]) ?_; rw [evF_R, K_ref08_Text])
  simp (maxSteps := 1000000) (disch := omega) [*]
 by_cases h6 : x.op = 6
 ·have he : txt x = ([123] ++ (lstP (x.args.map pc) true).flatten) ++ [125] := by
   unfold txt
   rw [pc_eq, h6]
   simp [node, lstP]
  have hl : (lstP (x.args.map pc) true).flatten.length ≤ (txt x).length := by rw [he]; simp only [List.length_append]; omega
  have hc := c_rlist x.an x.args hm hT (by omega)
  rw [he]
  clear he
  generalize (lstP (x.args.map pc) true).flatten = t at *
  have k1 := bin_cat2 [123] t (by simp only [List.length_cons, List.length_nil]; omega)
  have k2 := bin_cat2 ([123] ++ t) [125] (by simp only [List.length_append, List.length_cons, List.length_nil]; omega)
  clear hT hB ok hx hl
  simp only [List.append_assoc, List.cons_append, List.nil_append] at k1 k2 ⊢
  (refine callF_light rfl pf_ref08_Text lf_ref08_Text (by simp [K_ref08_Text]) ?_; rw [evF_R, K_ref08_Text])
  simp (maxSteps := 1000000) (disch := omega) [*]
 by_cases h7 : x.op = 7
 ·have ha : 1 < x.args.length := by have := ok.ar; rw [h7] at this; unfold arity at this; simpa using this
  have he : txt x = (((([123] ++ txt (gx x.args 0)) ++ [123]) ++ (lstP ((x.args.drop 1).map pc) true).flatten) ++ [125, 125]) := by
   unfold txt
   rw [pc_eq, h7]
   cases hxs : x.args with
   | nil => rw [hxs] at ha; simp at ha
   | cons y ys => simp [node, arnd, gx]
  have hl : (lstP ((x.args.drop 1).map pc) true).flatten.length ≤ (txt x).length := by rw [he]; simp only [List.length_append]; omega
  have hgs := an_lst x.an x.args (by omega)
  have ha0 : 0 < x.args.length := by omega
  have ha1 : 1 ≤ x.args.length := by omega
  have hc := c_rlist false (x.args.drop 1) (by simp; omega) (fun j hj => by simp at hj; have := hT (1 + j) (by omega); rwa [show gx (x.args.drop 1) j = gx x.args (1 + j) by unfold gx; simp only [List.getD_eq_getElem?_getD]; rw [List.getElem?_drop]]) (by omega)
  rw [gs_false] at hc
  have T0 := hT 0 (by omega)
  have b0 := hB 0 (by omega)
  rw [he]
  clear he
  generalize (lstP ((x.args.drop 1).map pc) true).flatten = t at *
  generalize txt (gx x.args 0) = t0 at *
  have k1 := bin_cat2 [123] t0 (by simp only [List.length_cons, List.length_nil]; omega)
  have k2 := bin_cat2 ([123] ++ t0) [123] (by simp only [List.length_append, List.length_cons, List.length_nil]; omega)
  have k3 := bin_cat2 (([123] ++ t0) ++ [123]) t (by simp only [List.length_append, List.length_cons, List.length_nil]; omega)
  have k4 := bin_cat2 ((([123] ++ t0) ++ [123]) ++ t) [125, 125] (by simp only [List.length_append, List.length_cons, List.length_nil]; omega)
  clear hT hB ok hx hl b0
  simp only [List.append_assoc, List.cons_append, List.nil_append] at k1 k2 k3 k4 ⊢
  (refine callF_light rfl pf_ref08_Text lf_ref08_Text (by simp [K_ref08_Text]) ?_; rw [evF_R, K_ref08_Text])
  simp (maxSteps := 1000000) (disch := omega) [*]
 by_cases h8 : x.op = 8
 ·have he : txt x = ((x.name ++ [40]) ++ (lstP (x.args.map pc) true).flatten) ++ [41] := by
   unfold txt
   rw [pc_eq, h8]
   simp [node, lstP]
  have hl : (lstP (x.args.map pc) true).flatten.length ≤ (txt x).length := by rw [he]; simp only [List.length_append]; omega
  have hc := c_rlist x.an x.args hm hT (by omega)
  rw [he]
  clear he
  generalize (lstP (x.args.map pc) true).flatten = t at *
  have k1 := bin_cat2 x.name [40] (by simp only [List.length_cons, List.length_nil]; omega)
  have k2 := bin_cat2 (x.name ++ [40]) t (by simp only [List.length_append, List.length_cons, List.length_nil]; omega)
  have k3 := bin_cat2 ((x.name ++ [40]) ++ t) [41] (by simp only [List.length_append, List.length_cons, List.length_nil]; omega)
  clear hT hB ok hx hl
  simp only [List.append_assoc, List.cons_append, List.nil_append] at k1 k2 k3 ⊢
  (refine callF_light rfl pf_ref08_Text lf_ref08_Text (by simp [K_ref08_Text]) ?_; rw [evF_R, K_ref08_Text])
  simp (maxSteps := 1000000) (disch := omega) [*]
 by_cases h9 : x.op = 9
 ·have h12 : x.args.length < 2 := by have := ok.ar; rw [h9] at this; unfold arity at this; simpa using this
  by_cases hn0 : x.args.length = 0
  ·have he : txt x = x.name := by
    unfold txt
    rw [pc_eq, h9, List.length_eq_zero_iff.1 hn0]
    simp [node]
   rw [he]
   clear hT hB ok hx he h12
   (refine callF_light rfl pf_ref08_Text lf_ref08_Text (by simp [K_ref08_Text]) ?_; rw [evF_R, K_ref08_Text])
   simp (maxSteps := 1000000) (disch := omega) [*]
  ·have hn : x.args.length = 1 := by omega
   have he : txt x = ((x.name ++ [40]) ++ txt (gx x.args 0)) ++ [41] := by
    unfold txt
    rw [pc_eq, h9, map1 hn]
    simp [node, arnd, txt]
   have T0 := hT 0 (by omega)
   have b0 := hB 0 (by omega)
   rw [he]
   clear he hx
   generalize txt (gx x.args 0) = t0 at *
   have k1 := bin_cat2 x.name [40] (by simp only [List.length_cons, List.length_nil]; omega)
   have k2 := bin_cat2 (x.name ++ [40]) t0 (by simp only [List.length_append, List.length_cons, List.length_nil]; omega)
   have k3 := bin_cat2 ((x.name ++ [40]) ++ t0) [41] (by simp only [List.length_append, List.length_cons, List.length_nil]; omega)
   clear hT hB ok b0 h12 hn0
   simp only [List.append_assoc, List.cons_append, List.nil_append] at k1 k2 k3 ⊢
   (refine callF_light rfl pf_ref08_Text lf_ref08_Text (by simp [K_ref08_Text]) ?_; rw [evF_R, K_ref08_Text])
   simp (maxSteps := 1000000) (disch := omega) [*]
 by_cases h10 : x.op = 10
 ·have hn : x.args.length = 3 := by have := ok.ar; rw [h10] at this; unfold arity at this; simpa using this
  have he : txt x = (((((([40]) ++ txt (gx x.args 0)) ++ [32, 63, 32]) ++ txt (gx x.args 1)) ++ [32, 58, 32]) ++ txt (gx x.args 2)) ++ [41] := by
   unfold txt
   rw [pc_eq, h10, map3 hn]
   simp [node, arnd, txt]
  have T0 := hT 0 (by omega)
  have b0 := hB 0 (by omega)
  have T1 := hT 1 (by omega)
  have b1 := hB 1 (by omega)
  have T2 := hT 2 (by omega)
  have b2 := hB 2 (by omega)
  rw [he]
  clear he hx
  generalize txt (gx x.args 0) = t0 at *
  generalize txt (gx x.args 1) = t1 at *
  generalize txt (gx x.args 2) = t2 at *
  have k1 := bin_cat2 ([40]) (t0) (by simp only [List.length_append, List.length_cons, List.length_nil] at *; omega)
  have k2 := bin_cat2 (([40]) ++ t0) ([32, 63, 32]) (by simp only [List.length_append, List.length_cons, List.length_nil] at *; omega)
  have k3 := bin_cat2 ((([40]) ++ t0) ++ [32, 63, 32]) (t1) (by simp only [List.length_append, List.length_cons, List.length_nil] at *; omega)
  have k4 := bin_cat2 (((([40]) ++ t0) ++ [32, 63, 32]) ++ t1) ([32, 58, 32]) (by simp only [List.length_append, List.length_cons, List.length_nil] at *; omega)
  have k5 := bin_cat2 ((((([40]) ++ t0) ++ [32, 63, 32]) ++ t1) ++ [32, 58, 32]) (t2) (by simp only [List.length_append, List.length_cons, List.length_nil] at *; omega)
  have k6 := bin_cat2 (((((([40]) ++ t0) ++ [32, 63, 32]) ++ t1) ++ [32, 58, 32]) ++ t2) [41] (by simp only [List.length_append, List.length_cons, List.length_nil] at *; omega)
  clear hT hB ok b0 b1 b2
  simp only [List.append_assoc, List.cons_append, List.nil_append] at k1 k2 k3 k4 k5 k6 ⊢
  (refine callF_light rfl pf_ref08_Text lf_ref08_Text (by simp [K_ref08_Text]) ?_; rw [evF_R, K_ref08_Text])
  simp (maxSteps := 1000000) (disch := omega) [*]
 have hlo : 11 ≤ x.op := by have := ok.o1; omega
 by_cases hu : x.op < 21
 ·have hn : x.args.length = 1 := by
   have := ok.ar; unfold arity at this
   simpa [h1, h2, h3, h4, h5, h6, h7, h8, h9, h10, hu] using this
  have he : txt x = (([40] ++ unSym.getD (x.op - 11) []) ++ txt (gx x.args 0)) ++ [41] := by
   unfold txt
   rw [pc_eq]
   unfold node
   rw [if_neg h1, if_neg h2, if_neg h3, if_neg h4, if_neg h5, if_neg h6, if_neg h7, if_neg h8, if_neg h9, if_neg h10, if_pos hu, map1 hn]
   simp [arnd, txt]
  have sl := sym_len.1 (x.op - 11)
  have hU := c_Unary
  have hu2 : x.op ≤ 20 := by omega
  have hw : IntKind.u8.wrap ((x.op : Int) - 11) = ((x.op - 11 : Nat) : Int) := by
   rw [show (x.op : Int) - 11 = ((x.op - 11 : Nat) : Int) by omega]
   exact wr8 _ (by omega)
  have hg : gx unSym (x.op - 11) = unSym.getD (x.op - 11) [] := rfl
  have hi : x.op - 11 < unSym.length := by show x.op - 11 < 10; omega
  have T0 := hT 0 (by omega)
  have b0 := hB 0 (by omega)
  rw [he]
  clear he hx
  generalize unSym.getD (x.op - 11) [] = u at *
  generalize txt (gx x.args 0) = t0 at *
  have k1 := bin_cat2 [40] u (by simp only [List.length_cons, List.length_nil]; omega)
  have k2 := bin_cat2 ([40] ++ u) t0 (by simp only [List.length_append, List.length_cons, List.length_nil]; omega)
  have k3 := bin_cat2 (([40] ++ u) ++ t0) [41] (by simp only [List.length_append, List.length_cons, List.length_nil]; omega)
  clear hT hB ok b0 sl
  simp only [List.append_assoc, List.cons_append, List.nil_append] at k1 k2 k3 ⊢
  (refine callF_light rfl pf_ref08_Text lf_ref08_Text (by simp [K_ref08_Text]) ?_; rw [evF_R, K_ref08_Text])
  simp (maxSteps := 1000000) (disch := omega) [strT, *]
 ·have hhi := ok.o2
  have hn : x.args.length = 2 := by
   have := ok.ar; unfold arity at this
   simpa [h1, h2, h3, h4, h5, h6, h7, h8, h9, h10, hu] using this
  have he : txt x = (((([40] ++ txt (gx x.args 0)) ++ [32]) ++ biSym.getD (x.op - 21) []) ++ [32]) ++ txt (gx x.args 1) ++ [41] := by
   unfold txt
   rw [pc_eq]
   unfold node
   rw [if_neg h1, if_neg h2, if_neg h3, if_neg h4, if_neg h5, if_neg h6, if_neg h7, if_neg h8, if_neg h9, if_neg h10, if_neg hu, map2 hn]
   simp [arnd, txt]
  have sl := sym_len.2 (x.op - 21)
  have hU := c_Binary
  have hu2 : ¬ x.op ≤ 20 := by omega
  have hw : IntKind.u8.wrap ((x.op : Int) - 21) = ((x.op - 21 : Nat) : Int) := by
   rw [show (x.op : Int) - 21 = ((x.op - 21 : Nat) : Int) by omega]
   exact wr8 _ (by omega)
  have hg : gx biSym (x.op - 21) = biSym.getD (x.op - 21) [] := rfl
  have hi : x.op - 21 < biSym.length := by show x.op - 21 < 24; omega
  have T0 := hT 0 (by omega)
  have b0 := hB 0 (by omega)
  have T1 := hT 1 (by omega)
  have b1 := hB 1 (by omega)
  rw [he]
  clear he hx
  generalize biSym.getD (x.op - 21) [] = u at *
  generalize txt (gx x.args 0) = t0 at *
  generalize txt (gx x.args 1) = t1 at *
  have k1 := bin_cat2 [40] t0 (by simp only [List.length_cons, List.length_nil]; omega)
  have k2 := bin_cat2 ([40] ++ t0) [32] (by simp only [List.length_append, List.length_cons, List.length_nil]; omega)
  have k3 := bin_cat2 (([40] ++ t0) ++ [32]) u (by simp only [List.length_append, List.length_cons, List.length_nil]; omega)
  have k4 := bin_cat2 ((([40] ++ t0) ++ [32]) ++ u) [32] (by simp only [List.length_append, List.length_cons, List.length_nil]; omega)
  have k5 := bin_cat2 (((([40] ++ t0) ++ [32]) ++ u) ++ [32]) t1 (by simp only [List.length_append, List.length_cons, List.length_nil]; omega)
  have k6 := bin_cat2 ((((([40] ++ t0) ++ [32]) ++ u) ++ [32]) ++ t1) [41] (by simp only [List.length_append, List.length_cons, List.length_nil]; omega)
  clear hT hB ok b0 b1 sl
  simp only [List.append_assoc, List.cons_append, List.nil_append] at k1 k2 k3 k4 k5 k6 ⊢
  (refine callF_light rfl pf_ref08_Text lf_ref08_Text (by simp [K_ref08_Text]) ?_; rw [evF_R, K_ref08_Text])
  simp (maxSteps := 1000000) (disch := omega) [strT, *]
end Go.TM.R8
