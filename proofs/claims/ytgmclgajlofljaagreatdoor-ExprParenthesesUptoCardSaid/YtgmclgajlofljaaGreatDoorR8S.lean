/- Expressions: what Check and Format say: the plain law. -/
import Derived.Test.YtgmclgajlofljaaGreatDoorR8A
import Derived.Test.YtgmclgajlofljaaGreatDoorQ8FG
set_option linter.all false
namespace Go.TM.R8
open Go Go.TM Go.Proofs Go.TM.A8
theorem args_len (x : Ex') : x.args.length < (size x).1 := by rw [size_eq]; have := sizeL_len x.args; simp only []; omega
theorem size_arg (x : Ex') (i : Nat) (h : i < x.args.length) : (size (gx x.args i)).1 < (size x).1 := by
 rw [size_eq x]; have := (sizeL_mem _ _ (Ex'.gx_mem x.args i h)).1; simp only []; omega
def ident (s : List UInt8) : Bool := whole s 0 && !keyword s
def sTime : List UInt8 := [36, 116, 105, 109, 101]
def sSig : List UInt8 := [36, 115, 105, 103, 110, 101, 100]
def sUns : List UInt8 := [36, 117, 110, 115, 105, 103, 110, 101, 100]
def sysOk (name : List UInt8) (n : Nat) : Bool := (decide (name = sTime) && decide (n = 0)) || ((decide (name = sSig) || decide (name = sUns)) && decide (n = 1))
def ownF (x : Ex') : Nat :=
 if x.op < 1 ∨ 44 < x.op then 11
 else if arity x.op x.args.length = false then 3
 else if named x.op = true ∧ ident x.name = false then 3
 else if x.op = 9 ∧ sysOk x.name x.args.length = false then 3
 else if x.op = 1 then chk x.bits else 0
mutual
def chkN : Ex' → Nat
 | .mk op name bn bits vs an args sig width sg => if ownF (.mk op name bn bits vs an args sig width sg) = 0 then chkL args else ownF (.mk op name bn bits vs an args sig width sg)
def chkL : List Ex' → Nat
 | [] => 0
 | x :: xs => if chkN x = 0 then chkL xs else chkN x
end
theorem chkN_eq (x : Ex') : chkN x = if ownF x = 0 then chkL x.args else ownF x := by cases x; rw [chkN]; rfl
def chkG (xs : List Ex') (i : Nat) : Nat := if i < xs.length then (if chkN (gx xs i) = 0 then chkG xs (i + 1) else chkN (gx xs i)) else 0
 termination_by xs.length - i
theorem chkG_eq (xs : List Ex') (i : Nat) : chkG xs i = chkL (xs.drop i) := by
 fun_induction chkG xs i with
 | case1 i h h2 ih =>
  rw [List.drop_eq_getElem_cons h, chkL]; have : gx xs i = xs[i] := by simp [gx, h]
  rw [← this, if_pos h2, ih]
 | case2 i h h2 =>
  rw [List.drop_eq_getElem_cons h, chkL]; have : gx xs i = xs[i] := by simp [gx, h]
  rw [← this, if_neg h2]
 | case3 i h => rw [List.drop_eq_nil_of_le (by omega)]; rfl
theorem chkL_all : ∀ xs : List Ex', chkL xs = 0 → ∀ x ∈ xs, chkN x = 0
 | [], _, x, h => by cases h
 | y :: xs, hh, x, h => by
  rw [chkL] at hh
  split at hh
  ·rename_i h0
   rcases List.mem_cons.1 h with rfl | h
   ·exact h0
   ·exact chkL_all xs hh x h
  ·rename_i h0; exact absurd hh h0
def checkF (x : Ex') : Nat := if 4096 < (size x).1 ∨ 64 < (size x).2 then 5 else chkN x
def unSym : List (List UInt8) := [[43], [45], [33], [126], [38], [124], [94], [126, 38], [126, 124], [126, 94]]
def biSym : List (List UInt8) := [[43], [45], [42], [47], [37], [42, 42], [61, 61], [33, 61], [61, 61, 61], [33, 61, 61], [60], [60, 61], [62], [62, 61], [38, 38], [124, 124], [38], [124], [94], [126, 94], [60, 60], [62, 62], [60, 60, 60], [62, 62, 62]]
def arnd : List (List (List UInt8)) → List (List UInt8) → List (List UInt8)
 | _, [] => []
 | [], t :: ts => t :: arnd [] ts
 | a :: qs, t :: ts => t :: (a ++ arnd qs ts)
def lstP : List (List (List UInt8)) → Bool → List (List UInt8)
 | [], _ => []
 | a :: qs, true => a ++ lstP qs false
 | a :: qs, false => [44, 32] :: (a ++ lstP qs false)
def node (op : Nat) (name : List UInt8) (bits : List Nat) (vs : Bool) (a : List (List (List UInt8))) : List (List UInt8) :=
 if op = 1 then [(numF bits vs).1]
 else if op = 2 then [name]
 else if op = 3 then name :: (a.map fun p => [91] :: (p ++ [[93]])).flatten
 else if op = 4 then arnd a [name ++ [91], [58], [93]]
 else if op = 5 then arnd a [name ++ [91], [43, 58], [93]]
 else if op = 6 then [123] :: (lstP a true ++ [[125]])
 else if op = 7 then arnd (a.take 1) [[123], [123]] ++ (lstP (a.drop 1) true ++ [[125, 125]])
 else if op = 8 then name :: [40] :: (lstP a true ++ [[41]])
 else if op = 9 then name :: (if a = [] then [] else arnd a [[40], [41]])
 else if op = 10 then arnd a [[40], [32, 63, 32], [32, 58, 32], [41]]
 else if op < 21 then arnd a [[40] ++ unSym.getD (op - 11) [], [41]]
 else arnd a [[40], [32] ++ biSym.getD (op - 21) [] ++ [32], [41]]
mutual
def pc : Ex' → List (List UInt8)
 | .mk op name _ bits vs _ args _ _ _ => node op name bits vs (pcL args)
def pcL : List Ex' → List (List (List UInt8))
 | [] => []
 | x :: xs => pc x :: pcL xs
end
theorem pcL_map : ∀ xs, pcL xs = xs.map pc
 | [] => rfl
 | x :: xs => by rw [pcL, pcL_map xs]; rfl
theorem pc_eq (x : Ex') : pc x = node x.op x.name x.bits x.vs (x.args.map pc) := by cases x; rw [pc, pcL_map]; rfl
def txt (x : Ex') : List UInt8 := (pc x).flatten
attribute [-simp] Int.natCast_add Int.natCast_mul List.drop_one
theorem c_ident (s : List UInt8) (hs : s.length < 100000000) : callF E 0 f_expr_identifier [.sc (str s)] emp = some (.sc (.bool (ident s)), emp) := by
 have h := c_FmtId s hs
 unfold ident
 cases hq : whole s 0 && !keyword s
 ·rw [hq] at h
  simp only [Bool.false_eq_true, if_false] at h
  clear hq
  (refine callF_light rfl pf_expr_identifier lf_expr_identifier (by simp [K_expr_identifier]) ?_; rw [evF_R, K_expr_identifier])
  simp (disch := omega) [*]
 ·rw [hq] at h
  simp only [if_true] at h
  clear hq
  (refine callF_light rfl pf_expr_identifier lf_expr_identifier (by simp [K_expr_identifier]) ?_; rw [evF_R, K_expr_identifier])
  simp (disch := omega) [*]
theorem c_system (x : Ex') (h : x.args.length < 2 ^ 62) : callF E 0 f_expr_system [x.t] emp = some (.sc (.bool (sysOk x.name x.args.length)), emp) := by
 unfold sysOk
 by_cases h1 : x.name = sTime
 ·have e : (str x.name) = str sTime := by rw [h1]
  rw [h1]
  unfold sTime at h1
  (refine callF_light rfl pf_expr_system lf_expr_system (by simp [K_expr_system]) ?_; rw [evF_R, K_expr_system])
  simp (disch := omega) [sTime, sSig, sUns, *]
 by_cases h2 : x.name = sSig
 ·rw [h2]
  unfold sSig at h2
  (refine callF_light rfl pf_expr_system lf_expr_system (by simp [K_expr_system]) ?_; rw [evF_R, K_expr_system])
  simp (disch := omega) [sTime, sSig, sUns, *]
 by_cases h3 : x.name = sUns
 ·rw [h3]
  unfold sUns at h3
  (refine callF_light rfl pf_expr_system lf_expr_system (by simp [K_expr_system]) ?_; rw [evF_R, K_expr_system])
  simp (disch := omega) [sTime, sSig, sUns, *]
 rw [show decide (x.name = sTime) = false by simpa using h1, show decide (x.name = sSig) = false by simpa using h2, show decide (x.name = sUns) = false by simpa using h3]
 unfold sTime at h1; unfold sSig at h2; unfold sUns at h3
 (refine callF_light rfl pf_expr_system lf_expr_system (by simp [K_expr_system]) ?_; rw [evF_R, K_expr_system])
 simp (disch := omega) [*]
def chX (xs : List Ex') (i : Nat) (S : Store) : Ex × St := if i < xs.length then (if chkN (gx xs i) = 0 then chX xs (i + 1) S else (.ret, ⟨[(2, .sc (.int .i64 (chkN (gx xs i) : Int)))], emp⟩)) else (.exit 1, ⟨[], S⟩)
 termination_by xs.length - i
theorem chX_eq (xs : List Ex') (i : Nat) (S : Store) : chX xs i S = if chkG xs i = 0 then (.exit 1, ⟨[], S⟩) else (.ret, ⟨[(2, .sc (.int .i64 (chkG xs i : Int)))], emp⟩) := by
 fun_induction chX xs i S with
 | case1 i h h2 ih => rw [ih]; conv => rhs; rw [chkG, if_pos h, if_pos h2]
 | case2 i h h2 => rw [chkG, if_pos h, if_neg h2, if_neg h2]
 | case3 i h => rw [chkG, if_neg h]; rfl
theorem l_chk (x : Ex') (i : Nat) (ha : x.args.length < 2 ^ 62)
  (ih : ∀ i, i < x.args.length → callF E 0 f_expr_checkNodes [(gx x.args i).t] emp = some (.sc (.int .i64 (chkN (gx x.args i) : Int)), emp)) :
  Lp E 1 56 K_expr_checkNodes_h0 K_expr_checkNodes_b0.c ⟨[(44, gs x.an 8 (ml Ex'.t x.args)), (45, .sc (.int .i64 x.args.length)), (46, .sc (.int .i64 (i : Int)))], upd emp (1, 1) (.box y_api_Expr x.t.cells)⟩ =
  some (chX x.args i (upd emp (1, 1) (.box y_api_Expr x.t.cells))) := by
 fun_induction chX x.args i (upd emp (1, 1) (.box y_api_Expr x.t.cells)) <;> (rw [Lp_eq]; rw (occs := .pos [1]) [K_expr_checkNodes_b0])
 all_goals simp (disch := omega) [*]
end Go.TM.R8
