/- Expressions: what Check and Format say: the plain law. -/
import Derived.Test.YtgmclgajlofljaaGreatDoorR8A
import Derived.Test.YtgmclgajlofljaaGreatDoorQ8FM
import Derived.Test.YtgmclgajlofljaaGreatDoorQ8JW
set_option linter.all false
namespace Go.TM.R8
open Go Go.TM Go.Proofs Go.TM.A8
theorem args_len (x : Ex') : x.args.length < (size x).1 := by rw [size_eq]; have := sizeL_len x.args; simp only []; omega
theorem size_arg (x : Ex') (i : Nat) (h : i < x.args.length) : (size (gx x.args i)).1 < (size x).1 := by
 rw [size_eq x]; have := (sizeL_mem _ _ (Ex'.gx_mem x.args i h)).1; simp only []; omega
def ident (s : List UInt8) : Bool := whole s 0 && !keyword s
def sTime : List UInt8 := [36, 116, 105, 109, 101]
def sSig : List UInt8 := [36, 115, 105, 103, 110, 101, 100]
def sUns : List UInt8 := [36, 117, 110, 115, 105, 103, 110, 101, 100]
def sysOk (name : List UInt8) (n : Nat) : Bool := (decide (name = sTime) && decide (n = 0)) || ((decide (name = sSig) || decide (name = sUns)) && decide (n = 1))
def ownF (x : Ex') : Nat :=
 if x.op < 1 ∨ 44 < x.op then 11
 else if arity x.op x.args.length = false then 3
 else if named x.op = true ∧ ident x.name = false then 3
 else if x.op = 9 ∧ sysOk x.name x.args.length = false then 3
 else if x.op = 1 then chk x.bits else 0
mutual
def chkN : Ex' → Nat
 | .mk op name bn bits vs an args sig width sg => if ownF (.mk op name bn bits vs an args sig width sg) = 0 then chkL args else ownF (.mk op name bn bits vs an args sig width sg)
def chkL : List Ex' → Nat
 | [] => 0
 | x :: xs => if chkN x = 0 then chkL xs else chkN x
end
theorem chkN_eq (x : Ex') : chkN x = if ownF x = 0 then chkL x.args else ownF x := by cases x; rw [chkN]; rfl
def chkG (xs : List Ex') (i : Nat) : Nat := if i < xs.length then (if chkN (gx xs i) = 0 then chkG xs (i + 1) else chkN (gx xs i)) else 0
 termination_by xs.length - i
theorem chkG_eq (xs : List Ex') (i : Nat) : chkG xs i = chkL (xs.drop i) := by
 fun_induction chkG xs i with
 | case1 i h h2 ih =>
  rw [List.drop_eq_getElem_cons h, chkL]; have : gx xs i = xs[i] := by simp [gx, h]
  rw [← this, if_pos h2, ih]
 | case2 i h h2 =>
  rw [List.drop_eq_getElem_cons h, chkL]; have : gx xs i = xs[i] := by simp [gx, h]
  rw [← this, if_neg h2]
 | case3 i h => rw [List.drop_eq_nil_of_le (by omega)]; rfl
theorem chkL_all : ∀ xs : List Ex', chkL xs = 0 → ∀ x ∈ xs, chkN x = 0
 | [], _, x, h => by cases h
 | y :: xs, hh, x, h => by
  rw [chkL] at hh
  split at hh
  ·rename_i h0
   rcases List.mem_cons.1 h with rfl | h
   ·exact h0
   ·exact chkL_all xs hh x h
  ·rename_i h0; exact absurd hh h0
def checkF (x : Ex') : Nat := if 4096 < (size x).1 ∨ 64 < (size x).2 then 5 else chkN x
def unSym : List (List UInt8) := [[43], [45], [33], [126], [38], [124], [94], [126, 38], [126, 124], [126, 94]]
def biSym : List (List UInt8) := [[43], [45], [42], [47], [37], [42, 42], [61, 61], [33, 61], [61, 61, 61], [33, 61, 61], [60], [60, 61], [62], [62, 61], [38, 38], [124, 124], [38], [124], [94], [126, 94], [60, 60], [62, 62], [60, 60, 60], [62, 62, 62]]
def arnd : List (List (List UInt8)) → List (List UInt8) → List (List UInt8)
 | _, [] => []
 | [], t :: ts => t :: arnd [] ts
 | a :: qs, t :: ts => t :: (a ++ arnd qs ts)
def lstP : List (List (List UInt8)) → Bool → List (List UInt8)
 | [], _ => []
 | a :: qs, true => a ++ lstP qs false
 | a :: qs, false => [44, 32] :: (a ++ lstP qs false)
def node (op : Nat) (name : List UInt8) (bits : List Nat) (vs : Bool) (a : List (List (List UInt8))) : List (List UInt8) :=
 if op = 1 then [(numF bits vs).1]
 else if op = 2 then [name]
 else if op = 3 then name :: (a.map fun p => [91] :: (p ++ [[93]])).flatten
 else if op = 4 then arnd a [name ++ [91], [58], [93]]
 else if op = 5 then arnd a [name ++ [91], [43, 58], [93]]
 else if op = 6 then [123] :: (lstP a true ++ [[125]])
 else if op = 7 then arnd (a.take 1) [[123], [123]] ++ (lstP (a.drop 1) true ++ [[125, 125]])
 else if op = 8 then name :: [40] :: (lstP a true ++ [[41]])
 else if op = 9 then name :: (if a = [] then [] else arnd a [[40], [41]])
 else if op = 10 then arnd a [[40], [32, 63, 32], [32, 58, 32], [41]]
 else if op < 21 then arnd a [[40] ++ unSym.getD (op - 11) [], [41]]
 else arnd a [[40], [32] ++ biSym.getD (op - 21) [] ++ [32], [41]]
mutual
def pc : Ex' → List (List UInt8)
 | .mk op name _ bits vs _ args _ _ _ => node op name bits vs (pcL args)
def pcL : List Ex' → List (List (List UInt8))
 | [] => []
 | x :: xs => pc x :: pcL xs
end
theorem pcL_map : ∀ xs, pcL xs = xs.map pc
 | [] => rfl
 | x :: xs => by rw [pcL, pcL_map xs]; rfl
theorem pc_eq (x : Ex') : pc x = node x.op x.name x.bits x.vs (x.args.map pc) := by cases x; rw [pc, pcL_map]; rfl
def txt (x : Ex') : List UInt8 := (pc x).flatten
attribute [-simp] Int.natCast_add Int.natCast_mul List.drop_one
theorem lay_low1 (S1 S2 : Store) (h1 : trunc 1 S1 = S1) (h2 : trunc 1 S2 = S2) : lay 1 S1 S2 = S1 := by
 funext l
 unfold lay
 by_cases hl : l.1 ≤ 1
 ·rw [Nat.ble_eq_true_of_le hl]; rfl
 ·have : Nat.ble l.1 1 = false := by
   cases hb : Nat.ble l.1 1 with
   | false => rfl
   | true => exact absurd (Nat.le_of_ble_eq_true hb) hl
  rw [this, ← h1, ← h2]
  unfold trunc
  rw [if_neg hl, if_neg hl]; rfl
structure LowS where
 S : Store
 h1 : trunc 1 S = S
 h2 : S (1, 7000) = none
abbrev BO := Option (Nat × List UInt8)
def BS (o : BO) (S : LowS) : Store := match o with
 | none => W.bld0 12 S.S
 | some p => W.bld1 12 p.1 p.2 S.S
def add (o : BO) (x : List UInt8) : BO := match o with
 | none => some (0, x)
 | some p => some (p.1 + 1, p.2 ++ x)
def adds (o : BO) : List (List UInt8) → BO
 | [] => o
 | x :: xs => adds (add o x) xs
def bl' : BO → Nat
 | none => 0
 | some p => p.2.length
theorem bl_add (o : BO) (x : List UInt8) : bl' (add o x) = bl' o + x.length := by cases o <;> simp [add, bl']
theorem bl_adds : ∀ (xs : List (List UInt8)) (o : BO), bl' (adds o xs) = bl' o + xs.flatten.length
 | [], o => by simp [adds]
 | x :: xs, o => by rw [adds, bl_adds xs, bl_add]; simp; omega
theorem adds_app : ∀ (xs ys : List (List UInt8)) (o : BO), adds o (xs ++ ys) = adds (adds o xs) ys
 | [], ys, o => rfl
 | x :: xs, ys, o => adds_app xs ys _
theorem adds_one (o : BO) (x : List UInt8) : adds o [x] = add o x := rfl
theorem BS_low (o : BO) (S : LowS) : trunc 1 (BS o S) = BS o S := by
 cases o <;> simp [BS, W.bld0, W.bld1, S.h1]
@[simp] theorem BS_t1 (o : BO) (S : LowS) : trunc 1 (BS o S) = BS o S := BS_low o S
@[simp] theorem BS_t2 (o : BO) (S : LowS) : trunc 2 (BS o S) = BS o S := low_trunc (BS_low o S) 2 (by omega)
@[simp] theorem BS_at (o : BO) (S : LowS) (d : Nat) : BS o S (2, d) = none := low_none (BS_low o S) 2 d (by omega)
@[simp] theorem BS_mask (o : BO) (S : LowS) (kl : List Nat) (S0 : Store) : maskT 2 kl S0 (BS o S) = BS o S := low_mask (BS_low o S) 2 (by omega) kl S0
@[simp] theorem BS_lay (o p : BO) (S R : LowS) : lay 1 (BS o S) (BS p R) = BS o S := lay_low1 _ _ (BS_low o S) (BS_low p R)
@[simp] theorem BS_ro (o : BO) (S : LowS) (d : Nat) : setRo (BS o S) [(2, d)] = BS o S := by
 funext l
 unfold setRo
 by_cases h : l = (2, d)
 ·subst h; rw [BS_at]
 ·split
  ·rename_i ro g sz e xs he
   have : ([(2, d)] : List Loc).contains l = false := by simp [h]
   rw [this, Bool.or_false]; exact he.symm
  ·rfl
theorem c_WS (o : BO) (x : List UInt8) (S : LowS) (hx : 0 < x.length) (hl : bl' o + x.length < 1000000000) :
  callF E 1 f_Builder_WriteString [.ptr (1, 12) 0, .sc (str x)] (BS o S) = some (.tup [.sc (.int .i64 x.length), .sc .nilIface], BS (add o x) S) := by
 cases o with
 | none =>
  have h := W.c_WriteString0 12 x S.S
  rw [if_pos ⟨S.h2, S.h1, by decide, hx, by simpa [bl'] using hl⟩] at h
  exact h
 | some p =>
  have h := W.c_WriteString1 12 p.1 p.2 x S.S
  rw [if_pos ⟨S.h1, by decide, hx, hl⟩] at h
  exact h
theorem strs2 (a b : List UInt8) : ml strT [a, b] = [.sc (str a), .sc (str b)] := rfl
theorem strs1 (a : List UInt8) : ml strT [a] = [.sc (str a)] := rfl
theorem strs3 (a b c : List UInt8) : ml strT [a, b, c] = [.sc (str a), .sc (str b), .sc (str c)] := rfl
theorem strs4 (a b c d : List UInt8) : ml strT [a, b, c, d] = [.sc (str a), .sc (str b), .sc (str c), .sc (str d)] := rfl
@[simp] theorem lowO_drop {L : Nat} (S1 S : Store) (k d : Nat) (o : Obj) (h : L ≤ k) : lowO L (upd S1 (k, d) o) S = lowO L S1 S := by
 funext l
 unfold lowO
 split
 ·rename_i hl
  unfold upd
  rw [if_neg (fun e => by rw [e] at hl; exact absurd hl (Nat.not_lt.2 h))]
 ·rfl
@[simp] theorem lowO_in {L : Nat} (S1 S : Store) (k d : Nat) (o : Obj) (h : L ≤ k) : lowO L S1 (upd S (k, d) o) = upd (lowO L S1 S) (k, d) o := by
 funext l
 unfold lowO upd
 by_cases hl : l = (k, d)
 ·subst hl
  rw [if_neg (Nat.not_lt.2 h), if_pos rfl, if_pos rfl]
 ·rw [if_neg hl, if_neg hl]
@[simp] theorem trunc_lowO1 (S1 S : Store) : trunc 1 (lowO 2 S1 S) = trunc 1 S1 := by
 funext l
 unfold trunc lowO
 split
 ·rw [if_pos (by omega)]
 ·rfl
@[simp] theorem trunc_setRo1 (S : Store) (d : Nat) : trunc 1 (setRo S [(2, d)]) = trunc 1 S := by
 funext l
 unfold trunc
 split
 ·rename_i hl
  unfold setRo
  have : ([(2, d)] : List Loc).contains l = false := by
   simp; intro e; rw [e] at hl; exact absurd hl (show ¬ (2 : Nat) ≤ 1 by decide)
  split
  ·rename_i he; rw [this, Bool.or_false]; exact he.symm
  ·rfl
 ·rfl
@[simp] theorem upd_setRo1 (S : Store) (l : Loc) (o : Obj) : upd (setRo S [l]) l o = upd S l o := by
 funext m
 unfold upd
 split
 ·rfl
 ·rename_i hm
  unfold setRo
  have : ([l] : List Loc).contains m = false := by simp [hm]
  split
  ·rename_i he; rw [this, Bool.or_false]; exact he.symm
  ·rfl
@[simp] theorem lay_lowO (A B Y : Store) : lay 1 A (lowO 2 B Y) = lowO 2 A Y := by
 funext l
 unfold lay lowO
 by_cases hl : l.1 < 2
 ·rw [Nat.ble_eq_true_of_le (show l.1 ≤ 1 by omega), if_pos hl, if_pos hl]; rfl
 ·have : Nat.ble l.1 1 = false := by
   cases hb : Nat.ble l.1 1 with
   | false => rfl
   | true => exact absurd (Nat.le_of_ble_eq_true hb) (by omega)
  rw [this, if_neg hl, if_neg hl]; rfl
def ptF (xs : List (List UInt8)) (o : BO) (i : Nat) : BO := if i < xs.length then ptF xs (add o (gx xs i)) (i + 1) else o
 termination_by xs.length - i
theorem ptF_ge (xs : List (List UInt8)) (o : BO) (i : Nat) : bl' o ≤ bl' (ptF xs o i) := by
 fun_induction ptF xs o i with
 | case1 o i h ih => rw [bl_add] at ih; omega
 | case2 => omega
theorem ptF_eq (xs : List (List UInt8)) (o : BO) (i : Nat) : ptF xs o i = adds o (xs.drop i) := by
 fun_induction ptF xs o i with
 | case1 o i h ih =>
  rw [ih, List.drop_eq_getElem_cons h]; have : gx xs i = xs[i] := by simp [gx, h]
  rw [this]; rfl
 | case2 o i h => rw [List.drop_eq_nil_of_le (by omega)]; rfl
theorem l_put (xs : List (List UInt8)) (o : BO) (i : Nat) (S : LowS) (hn : xs.length < 1000000) (hx : ∀ j, j < xs.length → 0 < (gx xs j).length) (hl : bl' (ptF xs o i) < 1000000000) :
  Lp E 2 18 K_expr_writer_put_h0 K_expr_writer_put_b0.c ⟨[(0, .ptr (1, 12) 0), (6, .lst 1 (ml strT xs)), (7, .sc (.int .i64 xs.length)), (8, .sc (.int .i64 (i : Int)))], BS o S⟩ =
   some (.exit 0, ⟨[], BS (ptF xs o i) S⟩) := by
 fun_induction ptF xs o i
 case case1 o i h ih =>
  have hg := ptF_ge xs (add o (gx xs i)) (i + 1)
  rw [bl_add] at hg
  have hc := c_WS o (gx xs i) S (hx i h) (by omega)
  have ih := ih hl
  clear hx hg hl
  (rw [Lp_eq]; rw (occs := .pos [1]) [K_expr_writer_put_b0])
  simp (disch := omega) [strT, *]
 case case2 o i h =>
  clear hx hl
  (rw [Lp_eq]; rw (occs := .pos [1]) [K_expr_writer_put_b0])
  simp (disch := omega) [strT, *]
theorem c_put (xs : List (List UInt8)) (o : BO) (S : LowS) (hn : xs.length < 1000000) (hx : ∀ j, j < xs.length → 0 < (gx xs j).length) (hl : bl' (adds o xs) < 1000000000) :
  callF E 1 f_expr_writer_put [.ptr (1, 12) 0, .lst 1 (ml strT xs)] (BS o S) = some (.tup [], BS (adds o xs) S) := by
 have h := l_put xs o 0 S hn hx (by rw [ptF_eq]; exact hl)
 rw [ptF_eq, List.drop_zero, show ((0 : Nat) : Int) = 0 from rfl] at h
 clear hx hl
 try simp only [lenN, Int.cast_ofNat_Int] at *
 (refine callF_light rfl pf_expr_writer_put lf_expr_writer_put (by simp [K_expr_writer_put]) ?_; rw [evF_R, K_expr_writer_put])
 simp (disch := omega) [strT, *]
def WrC (x : Ex') : Prop := chkN x = 0 → ∀ (o : BO) (S : LowS), bl' (adds o (pc x)) < 1000000000 → callF E 1 f_expr_writer_expr [.ptr (1, 12) 0, x.t] (BS o S) = some (.tup [], BS (adds o (pc x)) S)
def arF (xs : List Ex') (ts : List (List UInt8)) (o : BO) (i : Nat) : BO :=
 if i < ts.length then (if i < xs.length then arF xs ts (adds (add o (gx ts i)) (pc (gx xs i))) (i + 1) else arF xs ts (add o (gx ts i)) (i + 1)) else o
 termination_by ts.length - i
theorem arF_ge (xs : List Ex') (ts : List (List UInt8)) (o : BO) (i : Nat) : bl' o ≤ bl' (arF xs ts o i) := by
 fun_induction arF xs ts o i with
 | case1 o i h h2 ih => rw [bl_adds, bl_add] at ih; omega
 | case2 o i h h2 ih => rw [bl_add] at ih; omega
 | case3 => omega
theorem arF_eq (xs : List Ex') (ts : List (List UInt8)) (o : BO) (i : Nat) : arF xs ts o i = adds o (arnd ((xs.drop i).map pc) (ts.drop i)) := by
 fun_induction arF xs ts o i with
 | case1 o i h h2 ih =>
  rw [ih, List.drop_eq_getElem_cons h, List.drop_eq_getElem_cons h2]
  have e1 : gx xs i = xs[i] := by simp [gx, h2]
  have e2 : gx ts i = ts[i] := by simp [gx, h]
  rw [e1, e2, List.map_cons, arnd, adds, adds_app]
 | case2 o i h h2 ih =>
  rw [ih, List.drop_eq_getElem_cons h, List.drop_eq_nil_of_le (show xs.length ≤ i by omega), List.drop_eq_nil_of_le (show xs.length ≤ i + 1 by omega)]
  have e2 : gx ts i = ts[i] := by simp [gx, h]
  rw [e2, List.map_nil, arnd, adds]
 | case3 o i h =>
  rw [List.drop_eq_nil_of_le (show ts.length ≤ i by omega)]
  cases (xs.drop i).map pc <;> rfl
theorem l_around (b : Bool) (xs : List Ex') (ts : List (List UInt8)) (o : BO) (i : Nat) (S : LowS) (hn : ts.length < 1000000) (hm : xs.length < 1000000) (hx : ∀ j, j < ts.length → 0 < (gx ts j).length) (hw : ∀ j, j < xs.length → chkN (gx xs j) = 0 ∧ WrC (gx xs j)) (hl : bl' (arF xs ts o i) < 1000000000) :
  Lp E 2 30 K_expr_writer_around_h0 K_expr_writer_around_b0.c ⟨[(0, .ptr (1, 12) 0), (1, gs b 8 (ml Ex'.t xs)), (8, .lst 1 (ml strT ts)), (9, .sc (.int .i64 ts.length)), (10, .sc (.int .i64 (i : Int)))], BS o S⟩ =
   some (.exit 0, ⟨[], BS (arF xs ts o i) S⟩) := by
 fun_induction arF xs ts o i
 case case1 o i h h2 ih =>
  have hg := arF_ge xs ts (adds (add o (gx ts i)) (pc (gx xs i))) (i + 1)
  have hb := bl_adds (pc (gx xs i)) (add o (gx ts i))
  have hc := c_put [gx ts i] o S (by simp) (by intro j hj; simp at hj; subst hj; exact hx i h) (by rw [adds_one]; omega)
  rw [adds_one, strs1] at hc
  have hd := (hw i h2).2 (hw i h2).1 (add o (gx ts i)) S (by omega)
  have ih := ih hl
  clear hx hg hl hw hb
  (rw [Lp_eq]; rw (occs := .pos [1]) [K_expr_writer_around_b0])
  simp (disch := omega) [strT, *]
 case case2 o i h h2 ih =>
  have hg := arF_ge xs ts (add o (gx ts i)) (i + 1)
  have hc := c_put [gx ts i] o S (by simp) (by intro j hj; simp at hj; subst hj; exact hx i h) (by rw [adds_one]; omega)
  rw [adds_one, strs1] at hc
  have ih := ih hl
  clear hx hg hl hw
  (rw [Lp_eq]; rw (occs := .pos [1]) [K_expr_writer_around_b0])
  simp (disch := omega) [strT, *]
 case case3 o i h =>
  clear hx hl hw
  (rw [Lp_eq]; rw (occs := .pos [1]) [K_expr_writer_around_b0])
  simp (disch := omega) [strT, *]
theorem c_around (b : Bool) (xs : List Ex') (ts : List (List UInt8)) (o : BO) (S : LowS) (hn : ts.length < 1000000) (hm : xs.length < 1000000) (hx : ∀ j, j < ts.length → 0 < (gx ts j).length) (hw : ∀ j, j < xs.length → chkN (gx xs j) = 0 ∧ WrC (gx xs j)) (hl : bl' (adds o (arnd (xs.map pc) ts)) < 1000000000) :
  callF E 1 f_expr_writer_around [.ptr (1, 12) 0, gs b 8 (ml Ex'.t xs), .lst 1 (ml strT ts)] (BS o S) = some (.tup [], BS (adds o (arnd (xs.map pc) ts)) S) := by
 have h := l_around b xs ts o 0 S hn hm hx hw (by rw [arF_eq]; exact hl)
 rw [arF_eq, List.drop_zero, List.drop_zero, show ((0 : Nat) : Int) = 0 from rfl] at h
 clear hx hl hw
 try simp only [lenN, Int.cast_ofNat_Int] at *
 (refine callF_light rfl pf_expr_writer_around lf_expr_writer_around (by simp [K_expr_writer_around]) ?_; rw [evF_R, K_expr_writer_around])
 simp (disch := omega) [strT, *]
def sepA (i : Nat) (o : BO) : BO := if i = 0 then o else add o [44, 32]
theorem sepA_0 (o : BO) : sepA 0 o = o := rfl
theorem sepA_s {i : Nat} (o : BO) (h : ¬ i = 0) : sepA i o = add o [44, 32] := if_neg h
def lsF (xs : List Ex') (o : BO) (i : Nat) : BO := if i < xs.length then lsF xs (adds (sepA i o) (pc (gx xs i))) (i + 1) else o
 termination_by xs.length - i
theorem lsF_ge (xs : List Ex') (o : BO) (i : Nat) : bl' o ≤ bl' (lsF xs o i) := by
 fun_induction lsF xs o i with
 | case1 o i h ih =>
  have e : bl' o ≤ bl' (sepA i o) := by unfold sepA; split <;> (try rw [bl_add]) <;> omega
  rw [bl_adds] at ih; omega
 | case2 => omega
theorem lsF_eq (xs : List Ex') (o : BO) (i : Nat) : lsF xs o i = adds o (lstP ((xs.drop i).map pc) (decide (i = 0))) := by
 fun_induction lsF xs o i with
 | case1 o i h ih =>
  rw [ih, List.drop_eq_getElem_cons h]
  have e1 : gx xs i = xs[i] := by simp [gx, h]
  rw [e1, List.map_cons, show decide (i + 1 = 0) = false by simp]
  by_cases h0 : i = 0
  ·subst h0; simp only [sepA_0, decide_true, lstP, adds_app]
  ·rw [sepA_s _ h0, show decide (i = 0) = false by simpa using h0, lstP, adds, adds_app]
 | case2 o i h =>
  rw [List.drop_eq_nil_of_le (by omega)]
  cases decide (i = 0) <;> rfl
theorem l_list (b : Bool) (xs : List Ex') (o : BO) (i : Nat) (S : LowS) (hm : xs.length < 1000000) (hw : ∀ j, j < xs.length → chkN (gx xs j) = 0 ∧ WrC (gx xs j)) (hl : bl' (lsF xs o i) < 1000000000) :
  Lp E 2 22 K_expr_writer_list_h0 K_expr_writer_list_b0.c ⟨[(0, .ptr (1, 12) 0), (6, gs b 8 (ml Ex'.t xs)), (7, .sc (.int .i64 xs.length)), (8, .sc (.int .i64 (i : Int)))], BS o S⟩ =
   some (.exit 0, ⟨[], BS (lsF xs o i) S⟩) := by
 fun_induction lsF xs o i
 case case1 o i h ih =>
  have hg := lsF_ge xs (adds (sepA i o) (pc (gx xs i))) (i + 1)
  have ih := ih hl
  by_cases h0 : i = 0
  ·subst h0
   simp only [sepA_0] at ih hg hl ⊢
   have hd := (hw 0 h).2 (hw 0 h).1 o S (by omega)
   clear hg hl hw
   try simp only [lenN, Int.cast_ofNat_Int] at *
   (rw [Lp_eq]; rw (occs := .pos [1]) [K_expr_writer_list_b0])
   simp (disch := omega) [strT, *]
  ·rw [sepA_s _ h0] at ih hg hl ⊢
   have hb := bl_adds (pc (gx xs i)) (add o [44, 32])
   have hc := c_put [[44, 32]] o S (by simp) (by intro j hj; simp at hj; subst hj; decide) (by rw [adds_one]; omega)
   rw [adds_one, strs1] at hc
   have hd := (hw i h).2 (hw i h).1 (add o [44, 32]) S (by omega)
   have h0 : 0 < i := by omega
   clear hg hl hw hb
   (rw [Lp_eq]; rw (occs := .pos [1]) [K_expr_writer_list_b0])
   simp (disch := omega) [strT, *]
 case case2 o i h =>
  clear hl hw
  (rw [Lp_eq]; rw (occs := .pos [1]) [K_expr_writer_list_b0])
  simp (disch := omega) [strT, *]
theorem c_list (b : Bool) (xs : List Ex') (o : BO) (S : LowS) (hm : xs.length < 1000000) (hw : ∀ j, j < xs.length → chkN (gx xs j) = 0 ∧ WrC (gx xs j)) (hl : bl' (adds o (lstP (xs.map pc) true)) < 1000000000) :
  callF E 1 f_expr_writer_list [.ptr (1, 12) 0, gs b 8 (ml Ex'.t xs)] (BS o S) = some (.tup [], BS (adds o (lstP (xs.map pc) true)) S) := by
 have h := l_list b xs o 0 S hm hw (by rw [lsF_eq]; exact hl)
 rw [lsF_eq, List.drop_zero, show ((0 : Nat) : Int) = 0 from rfl] at h
 clear hl hw
 try simp only [lenN, Int.cast_ofNat_Int] at *
 (refine callF_light rfl pf_expr_writer_list lf_expr_writer_list (by simp [K_expr_writer_list]) ?_; rw [evF_R, K_expr_writer_list])
 simp (disch := omega) [strT, *]
end Go.TM.R8
namespace Go.TM.R8
open Go Go.TM Go.Proofs Go.TM.A8
attribute [-simp] Int.natCast_add Int.natCast_mul List.drop_one
structure Ok (x : Ex') : Prop where
 o1 : 1 ≤ x.op
 o2 : x.op ≤ 44
 ar : arity x.op x.args.length = true
 nm : named x.op = true → ident x.name = true
 sy : x.op = 9 → sysOk x.name x.args.length = true
 li : x.op = 1 → chk x.bits = 0
 ch : ∀ j, j < x.args.length → chkN (gx x.args j) = 0
theorem ok_of {x : Ex'} (h : chkN x = 0) : Ok x := by
 rw [chkN_eq] at h
 split at h
 ·rename_i h0
  have ha := chkL_all _ h
  unfold ownF at h0
  split at h0
  ·cases h0
  ·rename_i h1
   split at h0
   ·cases h0
   ·rename_i h2
    split at h0
    ·cases h0
    ·rename_i h3
     split at h0
     ·cases h0
     ·rename_i h4
      refine ⟨by omega, by omega, by simpa using h2, ?_, ?_, ?_, fun j hj => ha _ (Ex'.gx_mem _ _ hj)⟩
      ·intro e; by_cases hi : ident x.name = true
       ·exact hi
       ·exact absurd ⟨e, by simpa using hi⟩ h3
      ·intro e; by_cases hi : sysOk x.name x.args.length = true
       ·exact hi
       ·exact absurd ⟨e, by simpa using hi⟩ h4
      ·intro e; rw [if_pos e] at h0; exact h0
 ·rename_i h0; exact absurd h h0
theorem ident_pos {s : List UInt8} (h : ident s = true) : 0 < s.length := by
 unfold ident whole at h
 simp only [Bool.and_eq_true, decide_eq_true_eq] at h
 exact h.1.1
theorem sys_pos {s : List UInt8} {n : Nat} (h : sysOk s n = true) : 0 < s.length := by
 unfold sysOk at h
 simp only [Bool.or_eq_true, Bool.and_eq_true, decide_eq_true_eq] at h
 rcases h with ⟨rfl, _⟩ | ⟨rfl | rfl, _⟩ <;> decide
def slF (xs : List Ex') (o : BO) (i : Nat) : BO := if i < xs.length then slF xs (adds o ([91] :: (pc (gx xs i) ++ [[93]]))) (i + 1) else o
 termination_by xs.length - i
theorem slF_ge (xs : List Ex') (o : BO) (i : Nat) : bl' o ≤ bl' (slF xs o i) := by
 fun_induction slF xs o i with
 | case1 o i h ih => rw [bl_adds] at ih; omega
 | case2 => omega
theorem slF_eq (xs : List Ex') (o : BO) (i : Nat) : slF xs o i = adds o (((xs.drop i).map pc).map fun p => [91] :: (p ++ [[93]])).flatten := by
 fun_induction slF xs o i with
 | case1 o i h ih =>
  rw [ih, List.drop_eq_getElem_cons h]
  have e1 : gx xs i = xs[i] := by simp [gx, h]
  rw [e1, List.map_cons, List.map_cons, List.flatten_cons, adds_app]
 | case2 o i h => rw [List.drop_eq_nil_of_le (by omega)]; rfl
theorem pos1 {a : List UInt8} (ha : 0 < a.length) : ∀ j, j < [a].length → 0 < (gx [a] j).length := by
 intro j hj; simp at hj; subst hj; exact ha
theorem pos2 {a b : List UInt8} (ha : 0 < a.length) (hb : 0 < b.length) : ∀ j, j < [a, b].length → 0 < (gx [a, b] j).length := by
 intro j hj
 match j, hj with
 | 0, _ => exact ha
 | 1, _ => exact hb
theorem pos3 {a b c : List UInt8} (ha : 0 < a.length) (hb : 0 < b.length) (hc : 0 < c.length) : ∀ j, j < [a, b, c].length → 0 < (gx [a, b, c] j).length := by
 intro j hj
 match j, hj with
 | 0, _ => exact ha
 | 1, _ => exact hb
 | 2, _ => exact hc
theorem pos4 {a b c d : List UInt8} (ha : 0 < a.length) (hb : 0 < b.length) (hc : 0 < c.length) (hd : 0 < d.length) : ∀ j, j < [a, b, c, d].length → 0 < (gx [a, b, c, d] j).length := by
 intro j hj
 match j, hj with
 | 0, _ => exact ha
 | 1, _ => exact hb
 | 2, _ => exact hc
 | 3, _ => exact hd
theorem an_lst (b : Bool) (xs : List Ex') (h : 0 < xs.length) : gs b 8 (ml Ex'.t xs) = .lst 8 (ml Ex'.t xs) := by
 cases xs with
 | nil => simp at h
 | cons x xs => exact gs_cons b 8 _ _
theorem cut1 (xs : List Ex') (i : Nat) (h : i < xs.length) : (xs.take (i + 1)).drop i = [gx xs i] := by
 rw [List.take_succ_eq_append_getElem h, List.drop_append_of_le_length (by simp; omega)]
 unfold gx
 simp [List.getD_eq_getElem?_getD, List.getElem?_eq_getElem h]
theorem l_sel (x : Ex') (o : BO) (i : Nat) (S : LowS) (ha : 0 < x.args.length) (hm : x.args.length < 1000000) (hw : ∀ j, j < x.args.length → chkN (gx x.args j) = 0 ∧ WrC (gx x.args j)) (hl : bl' (slF x.args o i) < 1000000000) :
  Lp E 2 159 K_expr_writer_expr_h0 K_expr_writer_expr_b0.c ⟨[(0, .ptr (1, 12) 0), (3, .ptr (2, 3) 0), (60, .sc (.int .i64 x.args.length)), (61, .sc (.int .i64 (i : Int)))], upd (BS o S) (2, 3) (.box y_api_Expr x.t.cells)⟩ =
   some (.exit 1, ⟨[], upd (BS (slF x.args o i) S) (2, 3) (.box y_api_Expr x.t.cells)⟩) := by
 fun_induction slF x.args o i
 case case1 o i h ih =>
  have hg := slF_ge x.args (adds o ([91] :: (pc (gx x.args i) ++ [[93]]))) (i + 1)
  have ih := ih hl
  have hc := c_around false [gx x.args i] [[91], [93]] o S (by simp) (by simp) (pos2 (by decide) (by decide)) (by intro j hj; simp at hj; subst hj; exact hw i h) (by show bl' (adds o ([91] :: (pc (gx x.args i) ++ [[93]]))) < _; omega)
  rw [gs_false, strs2, ← cut1 _ _ h] at hc
  replace hc : callF E 1 f_expr_writer_around [.ptr (1, 12) 0, .lst 8 (ml Ex'.t ((x.args.take (i + 1)).drop i)), .lst 1 [.sc (str [91]), .sc (str [93])]] (BS o S) = some (T.tup [], BS (adds o ([91] :: (pc (gx x.args i) ++ [[93]]))) S) := by rw [hc, cut1 _ _ h]; rfl
  have hgs := an_lst x.an x.args ha
  have h5 : i + 1 ≤ x.args.length := h
  clear hg hl hw
  (rw [Lp_eq]; rw (occs := .pos [1]) [K_expr_writer_expr_b0])
  simp (disch := omega) [*]
 case case2 o i h =>
  clear hl hw
  (rw [Lp_eq]; rw (occs := .pos [1]) [K_expr_writer_expr_b0])
  simp (disch := omega) [*]
end Go.TM.R8
