/- Expressions: the writer, whole: every form. -/
import Derived.Test.YtgmclgajlofljaaGreatDoorQ8JW
set_option linter.all false
namespace Go.TM.R8
open Go Go.TM Go.Proofs Go.TM.A8
attribute [-simp] Int.natCast_add Int.natCast_mul List.drop_one
theorem dec_len10 : ∀ (k n : Nat), n < 10 ^ (k + 1) → 0 < (Lib.decDigits n).length ∧ (Lib.decDigits n).length ≤ k + 1
 | 0, n, h => by
  rw [Lib.decDigits]
  have : n < 10 := by simpa using h
  simp [this]
 | k + 1, n, h => by
  rw [Lib.decDigits]
  split
  ·simp
  ·have := dec_len10 k (n / 10) (Nat.div_lt_of_lt_mul (by rw [Nat.pow_succ] at h; omega))
   simp; omega
theorem numF_pos {l : List Nat} {sg : Bool} (h : chk l = 0) : 0 < (numF l sg).1.length ∧ (numF l sg).1.length ≤ 400 := by
 have h1 := (chk_ok h).2.1
 unfold numF
 rw [if_pos h]
 split
 ·rename_i n hn
  have h2 := decV_lt hn
  have h3 := dec_len10 10 n (by omega)
  show 0 < (Lib.decDigits n).length ∧ (Lib.decDigits n).length ≤ _
  omega
 ·have h5 := dec_len10 10 l.length (by omega)
  have h2 := dgB_len l
  show 0 < (fmtB _ _).length ∧ (fmtB _ _).length ≤ _
  unfold fmtB
  simp only [List.length_append, List.length_cons]
  split <;> simp <;> omega
theorem arnd_ge (a : List (List (List UInt8))) (t : List UInt8) (ts : List (List UInt8)) : t.length ≤ (arnd a (t :: ts)).flatten.length := by
 cases a <;> simp [arnd]
def aiX (ag : Bool) (sz n : Nat) (S : Store) : Option T → Option T → Option (T × Store)
 | some (.agg cs), some (.sc (.int _ m)) => bif idxOk m n then (readAt ag sz cs (m.toNat * sz)).map fun t => (t, S) else none
 | _, _ => none
theorem rX_aidx {call : CallF} {om : FuncId → List Nat} {L : Nat} {dd : Option Nat} {s : Slots} {S : Store} {ag : Bool} {sz n : Nat} {x i : Operand} : evX call om L dd s S (.aidx ag sz n x i) = aiX ag sz n S (ev s x) (ev s i) := by
 simp only [evX]
 generalize ev s x = a
 generalize ev s i = b
 cases a with
 | none => rfl
 | some a => cases a with
  | agg cs => cases b with
   | none => rfl
   | some b => cases b with
    | sc v => cases v <;> rfl
    | _ => rfl
  | _ => rfl
theorem sym_un (o : Nat) (h1 : 11 ≤ o) (h2 : o < 21) : callF E 0 f_expr_unarySymbol [.sc (.int .u8 (o : Int))] emp = some (.sc (str (unSym.getD (o - 11) [])), emp) ∧ 0 < (unSym.getD (o - 11) []).length ∧ (unSym.getD (o - 11) []).length ≤ 2 := by
 rcases (show o = 11 ∨ o = 12 ∨ o = 13 ∨ o = 14 ∨ o = 15 ∨ o = 16 ∨ o = 17 ∨ o = 18 ∨ o = 19 ∨ o = 20 by omega) with rfl | rfl | rfl | rfl | rfl | rfl | rfl | rfl | rfl | rfl
 all_goals refine ⟨?_, by decide, by decide⟩
 all_goals clear h1 h2
 all_goals try simp only [lenN, Int.cast_ofNat_Int] at *
 all_goals (refine callF_light rfl pf_expr_unarySymbol lf_expr_unarySymbol (by simp [K_expr_unarySymbol]) ?_; rw [evF_R, K_expr_unarySymbol])
 all_goals simp (maxSteps := 1000000) (disch := omega) [rX_aidx, aiX, idxOk, unSym, show IntKind.u8.wrap 0 = 0 from rfl, show IntKind.u8.wrap 1 = 1 from rfl, show IntKind.u8.wrap 2 = 2 from rfl, show IntKind.u8.wrap 3 = 3 from rfl, show IntKind.u8.wrap 4 = 4 from rfl, show IntKind.u8.wrap 5 = 5 from rfl, show IntKind.u8.wrap 6 = 6 from rfl, show IntKind.u8.wrap 7 = 7 from rfl, show IntKind.u8.wrap 8 = 8 from rfl, show IntKind.u8.wrap 9 = 9 from rfl, show IntKind.u8.wrap 10 = 10 from rfl, show IntKind.u8.wrap 11 = 11 from rfl, show IntKind.u8.wrap 12 = 12 from rfl, show IntKind.u8.wrap 13 = 13 from rfl, show IntKind.u8.wrap 14 = 14 from rfl, show IntKind.u8.wrap 15 = 15 from rfl, show IntKind.u8.wrap 16 = 16 from rfl, show IntKind.u8.wrap 17 = 17 from rfl, show IntKind.u8.wrap 18 = 18 from rfl, show IntKind.u8.wrap 19 = 19 from rfl, show IntKind.u8.wrap 20 = 20 from rfl, show IntKind.u8.wrap 21 = 21 from rfl, show IntKind.u8.wrap 22 = 22 from rfl, show IntKind.u8.wrap 23 = 23 from rfl, *]
set_option maxHeartbeats 2000000 in
theorem sym_bi (o : Nat) (h1 : 21 ≤ o) (h2 : o ≤ 44) : callF E 0 f_expr_binarySymbol [.sc (.int .u8 (o : Int))] emp = some (.sc (str (biSym.getD (o - 21) [])), emp) ∧ 0 < (biSym.getD (o - 21) []).length ∧ (biSym.getD (o - 21) []).length ≤ 3 := by
 rcases (show o = 21 ∨ o = 22 ∨ o = 23 ∨ o = 24 ∨ o = 25 ∨ o = 26 ∨ o = 27 ∨ o = 28 ∨ o = 29 ∨ o = 30 ∨ o = 31 ∨ o = 32 ∨ o = 33 ∨ o = 34 ∨ o = 35 ∨ o = 36 ∨ o = 37 ∨ o = 38 ∨ o = 39 ∨ o = 40 ∨ o = 41 ∨ o = 42 ∨ o = 43 ∨ o = 44 by omega) with rfl | rfl | rfl | rfl | rfl | rfl | rfl | rfl | rfl | rfl | rfl | rfl | rfl | rfl | rfl | rfl | rfl | rfl | rfl | rfl | rfl | rfl | rfl | rfl
 all_goals refine ⟨?_, by decide, by decide⟩
 all_goals clear h1 h2
 all_goals try simp only [lenN, Int.cast_ofNat_Int] at *
 all_goals (refine callF_light rfl pf_expr_binarySymbol lf_expr_binarySymbol (by simp [K_expr_binarySymbol]) ?_; rw [evF_R, K_expr_binarySymbol])
 all_goals simp (maxSteps := 1000000) (disch := omega) [rX_aidx, aiX, idxOk, biSym, show IntKind.u8.wrap 0 = 0 from rfl, show IntKind.u8.wrap 1 = 1 from rfl, show IntKind.u8.wrap 2 = 2 from rfl, show IntKind.u8.wrap 3 = 3 from rfl, show IntKind.u8.wrap 4 = 4 from rfl, show IntKind.u8.wrap 5 = 5 from rfl, show IntKind.u8.wrap 6 = 6 from rfl, show IntKind.u8.wrap 7 = 7 from rfl, show IntKind.u8.wrap 8 = 8 from rfl, show IntKind.u8.wrap 9 = 9 from rfl, show IntKind.u8.wrap 10 = 10 from rfl, show IntKind.u8.wrap 11 = 11 from rfl, show IntKind.u8.wrap 12 = 12 from rfl, show IntKind.u8.wrap 13 = 13 from rfl, show IntKind.u8.wrap 14 = 14 from rfl, show IntKind.u8.wrap 15 = 15 from rfl, show IntKind.u8.wrap 16 = 16 from rfl, show IntKind.u8.wrap 17 = 17 from rfl, show IntKind.u8.wrap 18 = 18 from rfl, show IntKind.u8.wrap 19 = 19 from rfl, show IntKind.u8.wrap 20 = 20 from rfl, show IntKind.u8.wrap 21 = 21 from rfl, show IntKind.u8.wrap 22 = 22 from rfl, show IntKind.u8.wrap 23 = 23 from rfl, *]
@[simp] theorem slK_01 (n : Nat) (mk : Nat → Nat → T) (b : Bool) (m : Nat) : slK n mk b (some 0) (some 1) (some (m : Int)) = if 0 ≤ 1 ∧ 1 ≤ m ∧ m ≤ n ∧ b = true then some (mk 0 1) else none := slK_n n mk b 0 1 m
theorem wr : ∀ x : Ex', (size x).1 < 900000 → WrC x := by
 refine Ex'.ind2 (P := fun x => (size x).1 < 900000 → WrC x) fun x ih hs => ?_
 intro hk o S hl
 have ok := ok_of hk
 have hm : x.args.length < 1000000 := by have := args_len x; omega
 have hw : ∀ j, j < x.args.length → chkN (gx x.args j) = 0 ∧ WrC (gx x.args j) := fun j hj => ⟨ok.ch j hj, ih j hj (by have := size_arg x j hj; omega)⟩
 rw [pc_eq] at hl ⊢
 clear ih hs hk
 by_cases h1 : x.op = 1
 ·have hn : node x.op x.name x.bits x.vs (x.args.map pc) = [(numF x.bits x.vs).1] := by rw [h1]; rfl
  rw [hn] at hl ⊢
  have hp := numF_pos (sg := x.vs) (ok.li h1)
  have hf := c_FmtNum x.bn x.vs x.bits (ok.li h1)
  have hc := c_put [(numF x.bits x.vs).1] o S (by simp) (pos1 hp.1) hl
  rw [strs1] at hc
  generalize (numF x.bits x.vs).1 = t at *
  clear hl hp hw hn ok
  (refine callF_light rfl pf_expr_writer_expr lf_expr_writer_expr (by simp [K_expr_writer_expr]) ?_; rw [evF_R, K_expr_writer_expr])
  simp (maxSteps := 1000000) (disch := omega) [*]
 by_cases h2 : x.op = 2
 ·have hn : node x.op x.name x.bits x.vs (x.args.map pc) = [x.name] := by rw [h2]; rfl
  rw [hn] at hl ⊢
  have hp := ident_pos (ok.nm (by rw [h2]; rfl))
  have hc := c_put [x.name] o S (by simp) (pos1 hp) hl
  rw [strs1] at hc
  clear hl hw hn ok h1
  (refine callF_light rfl pf_expr_writer_expr lf_expr_writer_expr (by simp [K_expr_writer_expr]) ?_; rw [evF_R, K_expr_writer_expr])
  simp (maxSteps := 1000000) (disch := omega) [*]
 by_cases h3 : x.op = 3
 ·have hn : node x.op x.name x.bits x.vs (x.args.map pc) = x.name :: ((x.args.map pc).map fun p => [91] :: (p ++ [[93]])).flatten := by rw [h3]; rfl
  rw [hn] at hl ⊢
  have hp := ident_pos (ok.nm (by rw [h3]; rfl))
  have ha : 0 < x.args.length := by have := ok.ar; rw [h3] at this; unfold arity at this; simp at this; omega
  have hc := c_put [x.name] o S (by simp) (pos1 hp) (by simp only [bl_adds, bl_add, List.flatten_cons, List.flatten_append, List.flatten_nil, List.length_append, List.length_cons, List.length_nil] at hl ⊢; omega)
  have hlp := l_sel x (add o x.name) 0 S ha hm hw (by rw [slF_eq, List.drop_zero]; exact hl)
  rw [slF_eq, List.drop_zero, show ((0 : Nat) : Int) = 0 from rfl] at hlp
  rw [strs1, adds_one] at hc
  rw [adds]
  generalize adds (add o x.name) _ = z at *
  clear hl hw hn ok h1 h2
  (refine callF_light rfl pf_expr_writer_expr lf_expr_writer_expr (by simp [K_expr_writer_expr]) ?_; rw [evF_R, K_expr_writer_expr])
  simp (maxSteps := 1000000) (disch := omega) [*]
 by_cases h4 : x.op = 4
 ·have hn : node x.op x.name x.bits x.vs (x.args.map pc) = arnd (x.args.map pc) [x.name ++ [91], [58], [93]] := by rw [h4]; rfl
  rw [hn] at hl ⊢
  have hp := ident_pos (ok.nm (by rw [h4]; rfl))
  have hb := arnd_ge (x.args.map pc) (x.name ++ [91]) [[58], [93]]
  have hc := c_around x.an x.args [x.name ++ [91], [58], [93]] o S (by simp) hm (pos3 (by simp) (by decide) (by decide)) hw hl
  rw [bl_adds] at hl
  have k1 := bin_cat2 x.name [91] (by simp only [List.length_append, List.length_cons, List.length_nil] at hb ⊢; omega)
  rw [strs3] at hc
  generalize adds o _ = z at *
  clear hb
  clear hl hw hn ok h1 h2 h3
  (refine callF_light rfl pf_expr_writer_expr lf_expr_writer_expr (by simp [K_expr_writer_expr]) ?_; rw [evF_R, K_expr_writer_expr])
  simp (maxSteps := 1000000) (disch := omega) [*]
 by_cases h5 : x.op = 5
 ·have hn : node x.op x.name x.bits x.vs (x.args.map pc) = arnd (x.args.map pc) [x.name ++ [91], [43, 58], [93]] := by rw [h5]; rfl
  rw [hn] at hl ⊢
  have hp := ident_pos (ok.nm (by rw [h5]; rfl))
  have hb := arnd_ge (x.args.map pc) (x.name ++ [91]) [[43, 58], [93]]
  have hc := c_around x.an x.args [x.name ++ [91], [43, 58], [93]] o S (by simp) hm (pos3 (by simp) (by decide) (by decide)) hw hl
  rw [bl_adds] at hl
  have k1 := bin_cat2 x.name [91] (by simp only [List.length_append, List.length_cons, List.length_nil] at hb ⊢; omega)
  rw [strs3] at hc
  generalize adds o _ = z at *
  clear hb
  clear hl hw hn ok h1 h2 h3 h4
  (refine callF_light rfl pf_expr_writer_expr lf_expr_writer_expr (by simp [K_expr_writer_expr]) ?_; rw [evF_R, K_expr_writer_expr])
  simp (maxSteps := 1000000) (disch := omega) [*]
 by_cases h6 : x.op = 6
 ·have hn : node x.op x.name x.bits x.vs (x.args.map pc) = [123] :: (lstP (x.args.map pc) true ++ [[125]]) := by rw [h6]; rfl
  rw [hn] at hl ⊢
  have c1 := c_put [[123]] o S (by simp) (pos1 (by decide)) (by simp only [bl_adds, bl_add, List.flatten_cons, List.flatten_append, List.flatten_nil, List.length_append, List.length_cons, List.length_nil] at hl ⊢; omega)
  have c2 := c_list x.an x.args (add o [123]) S hm hw (by simp only [bl_adds, bl_add, List.flatten_cons, List.flatten_append, List.flatten_nil, List.length_append, List.length_cons, List.length_nil] at hl ⊢; omega)
  have c3 := c_put [[125]] (adds (add o [123]) (lstP (x.args.map pc) true)) S (by simp) (pos1 (by decide)) (by simp only [bl_adds, bl_add, List.flatten_cons, List.flatten_append, List.flatten_nil, List.length_append, List.length_cons, List.length_nil] at hl ⊢; omega)
  rw [strs1] at c1 c3
  rw [adds, adds_app]
  rw [adds_one] at c1 c3 ⊢
  generalize adds (add o [123]) _ = z at *
  clear hl hw hn ok h1 h2 h3 h4 h5
  (refine callF_light rfl pf_expr_writer_expr lf_expr_writer_expr (by simp [K_expr_writer_expr]) ?_; rw [evF_R, K_expr_writer_expr])
  simp (maxSteps := 1000000) (disch := omega) [*]
 by_cases h7 : x.op = 7
 ·have h1le : 1 ≤ x.args.length := by have := ok.ar; rw [h7] at this; unfold arity at this; simp at this; omega
  have hn : node x.op x.name x.bits x.vs (x.args.map pc) = arnd ((x.args.map pc).take 1) [[123], [123]] ++ (lstP ((x.args.map pc).drop 1) true ++ [[125, 125]]) := by rw [h7]; rfl
  rw [hn] at hl ⊢
  have ha : 0 < x.args.length := by have := ok.ar; rw [h7] at this; unfold arity at this; simp at this; omega
  have hgs := an_lst x.an x.args ha
  rw [← List.map_take, ← List.map_drop] at hl ⊢
  have c1 := c_around false (x.args.take 1) [[123], [123]] o S (by simp) (by simp; omega) (pos2 (by decide) (by decide)) (fun j hj => by simp at hj; have := hw j (by omega); rwa [show gx (x.args.take 1) j = gx x.args j by unfold gx; simp only [List.getD_eq_getElem?_getD]; rw [List.getElem?_take, if_pos (by omega)]]) (by simp only [bl_adds, bl_add, List.flatten_cons, List.flatten_append, List.flatten_nil, List.length_append, List.length_cons, List.length_nil] at hl ⊢; omega)
  have c2 := c_list false (x.args.drop 1) (adds o (arnd ((x.args.take 1).map pc) [[123], [123]])) S (by simp; omega) (fun j hj => by simp at hj; have := hw (1 + j) (by omega); rwa [show gx (x.args.drop 1) j = gx x.args (1 + j) by unfold gx; simp only [List.getD_eq_getElem?_getD]; rw [List.getElem?_drop]]) (by simp only [bl_adds, bl_add, List.flatten_cons, List.flatten_append, List.flatten_nil, List.length_append, List.length_cons, List.length_nil] at hl ⊢; omega)
  have c3 := c_put [[125, 125]] (adds (adds o (arnd ((x.args.take 1).map pc) [[123], [123]])) (lstP ((x.args.drop 1).map pc) true)) S (by simp) (pos1 (by decide)) (by simp only [bl_adds, bl_add, List.flatten_cons, List.flatten_append, List.flatten_nil, List.length_append, List.length_cons, List.length_nil] at hl ⊢; omega)
  rw [strs2, gs_false] at c1
  rw [gs_false] at c2
  rw [strs1] at c3
  rw [adds_app, adds_app]
  rw [adds_one] at c3 ⊢
  clear hl hw hn ok h1 h2 h3 h4 h5 h6
  generalize adds o (arnd ((x.args.take 1).map pc) [[123], [123]]) = z1 at *
  generalize adds z1 (lstP ((x.args.drop 1).map pc) true) = z at *
  (refine callF_light rfl pf_expr_writer_expr lf_expr_writer_expr (by simp [K_expr_writer_expr]) ?_; rw [evF_R, K_expr_writer_expr])
  simp (maxSteps := 1000000) (disch := omega) [*]
 by_cases h8 : x.op = 8
 ·have hn : node x.op x.name x.bits x.vs (x.args.map pc) = x.name :: [40] :: (lstP (x.args.map pc) true ++ [[41]]) := by rw [h8]; rfl
  rw [hn] at hl ⊢
  have hp := ident_pos (ok.nm (by rw [h8]; rfl))
  have c1 := c_put [x.name, [40]] o S (by simp) (pos2 hp (by decide)) (by simp only [bl_adds, bl_add, List.flatten_cons, List.flatten_append, List.flatten_nil, List.length_append, List.length_cons, List.length_nil] at hl ⊢; omega)
  have c2 := c_list x.an x.args (adds o [x.name, [40]]) S hm hw (by simp only [bl_adds, bl_add, List.flatten_cons, List.flatten_append, List.flatten_nil, List.length_append, List.length_cons, List.length_nil] at hl ⊢; omega)
  have c3 := c_put [[41]] (adds (adds o [x.name, [40]]) (lstP (x.args.map pc) true)) S (by simp) (pos1 (by decide)) (by simp only [bl_adds, bl_add, List.flatten_cons, List.flatten_append, List.flatten_nil, List.length_append, List.length_cons, List.length_nil] at hl ⊢; omega)
  rw [strs2] at c1
  rw [strs1] at c3
  rw [show x.name :: [40] :: (lstP (x.args.map pc) true ++ [[41]]) = [x.name, [40]] ++ (lstP (x.args.map pc) true ++ [[41]]) from rfl, adds_app, adds_app]
  rw [adds_one] at c3 ⊢
  generalize adds (adds o _) _ = z at *
  generalize adds o _ = z1 at *
  clear hl hw hn ok h1 h2 h3 h4 h5 h6 h7
  (refine callF_light rfl pf_expr_writer_expr lf_expr_writer_expr (by simp [K_expr_writer_expr]) ?_; rw [evF_R, K_expr_writer_expr])
  simp (maxSteps := 1000000) (disch := omega) [*]
 by_cases h9 : x.op = 9
 ·have hp := sys_pos (ok.sy h9)
  by_cases h0 : x.args.length = 0
  ·have hn : node x.op x.name x.bits x.vs (x.args.map pc) = [x.name] := by rw [h9, List.length_eq_zero_iff.1 h0]; rfl
   rw [hn] at hl ⊢
   have hc := c_put [x.name] o S (by simp) (pos1 hp) hl
   rw [strs1] at hc
   clear hl hw hn ok h1 h2 h3 h4 h5 h6 h7 h8
   (refine callF_light rfl pf_expr_writer_expr lf_expr_writer_expr (by simp [K_expr_writer_expr]) ?_; rw [evF_R, K_expr_writer_expr])
   simp (maxSteps := 1000000) (disch := omega) [*]
  ·have hn : node x.op x.name x.bits x.vs (x.args.map pc) = x.name :: arnd (x.args.map pc) [[40], [41]] := by
    rw [h9]
    show x.name :: (if _ then _ else _) = _
    rw [if_neg (by simp; intro e; rw [e] at h0; exact h0 rfl)]
   rw [hn] at hl ⊢
   have ha : 0 < x.args.length := by omega
   have hc := c_put [x.name] o S (by simp) (pos1 hp) (by simp only [bl_adds, bl_add, List.flatten_cons, List.flatten_append, List.flatten_nil, List.length_append, List.length_cons, List.length_nil] at hl ⊢; omega)
   have c2 := c_around x.an x.args [[40], [41]] (add o x.name) S (by simp) hm (pos2 (by decide) (by decide)) hw hl
   rw [strs1, adds_one] at hc
   rw [strs2] at c2
   rw [adds]
   generalize adds (add o x.name) _ = z at *
   clear hl hw hn ok h1 h2 h3 h4 h5 h6 h7 h8 h0
   (refine callF_light rfl pf_expr_writer_expr lf_expr_writer_expr (by simp [K_expr_writer_expr]) ?_; rw [evF_R, K_expr_writer_expr])
   simp (maxSteps := 1000000) (disch := omega) [*]
 by_cases h10 : x.op = 10
 ·have hn : node x.op x.name x.bits x.vs (x.args.map pc) = arnd (x.args.map pc) [[40], [32, 63, 32], [32, 58, 32], [41]] := by rw [h10]; rfl
  rw [hn] at hl ⊢
  have hc := c_around x.an x.args [[40], [32, 63, 32], [32, 58, 32], [41]] o S (by simp) hm (pos4 (by decide) (by decide) (by decide) (by decide)) hw hl
  rw [strs4] at hc
  generalize adds o _ = z at *
  clear hl hw hn ok h1 h2 h3 h4 h5 h6 h7 h8 h9
  (refine callF_light rfl pf_expr_writer_expr lf_expr_writer_expr (by simp [K_expr_writer_expr]) ?_; rw [evF_R, K_expr_writer_expr])
  simp (maxSteps := 1000000) (disch := omega) [*]
 have hlo : 11 ≤ x.op := by have := ok.o1; omega
 by_cases hu : x.op < 21
 ·have hn : node x.op x.name x.bits x.vs (x.args.map pc) = arnd (x.args.map pc) [[40] ++ unSym.getD (x.op - 11) [], [41]] := by
   unfold node
   rw [if_neg h1, if_neg h2, if_neg h3, if_neg h4, if_neg h5, if_neg h6, if_neg h7, if_neg h8, if_neg h9, if_neg h10, if_pos hu]
  rw [hn] at hl ⊢
  obtain ⟨s1, s2, s3⟩ := sym_un x.op hlo hu
  have k1 := bin_cat2 [40] (unSym.getD (x.op - 11) []) (by simp only [List.length_append, List.length_cons, List.length_nil]; omega)
  have hc := c_around x.an x.args [[40] ++ unSym.getD (x.op - 11) [], [41]] o S (by simp) hm (pos2 (by simp) (by decide)) hw hl
  rw [strs2] at hc
  generalize unSym.getD (x.op - 11) [] = u at *
  generalize adds o _ = z at *
  simp only [List.cons_append, List.nil_append] at k1 hc
  clear hl hw hn ok s2 s3
  (refine callF_light rfl pf_expr_writer_expr lf_expr_writer_expr (by simp [K_expr_writer_expr]) ?_; rw [evF_R, K_expr_writer_expr])
  simp (maxSteps := 1000000) (disch := omega) [*]
 ·have hn : node x.op x.name x.bits x.vs (x.args.map pc) = arnd (x.args.map pc) [[40], [32] ++ biSym.getD (x.op - 21) [] ++ [32], [41]] := by
   unfold node
   rw [if_neg h1, if_neg h2, if_neg h3, if_neg h4, if_neg h5, if_neg h6, if_neg h7, if_neg h8, if_neg h9, if_neg h10, if_neg hu]
  rw [hn] at hl ⊢
  have hhi := ok.o2
  obtain ⟨s1, s2, s3⟩ := sym_bi x.op (by omega) hhi
  have k1 := bin_cat2 [32] (biSym.getD (x.op - 21) []) (by simp only [List.length_append, List.length_cons, List.length_nil]; omega)
  have k2 := bin_cat2 ([32] ++ biSym.getD (x.op - 21) []) [32] (by simp only [List.length_append, List.length_cons, List.length_nil]; omega)
  have hc := c_around x.an x.args [[40], [32] ++ biSym.getD (x.op - 21) [] ++ [32], [41]] o S (by simp) hm (pos3 (by decide) (by simp) (by decide)) hw hl
  rw [strs3] at hc
  generalize biSym.getD (x.op - 21) [] = u at *
  generalize adds o _ = z at *
  simp only [List.cons_append, List.nil_append] at k1 k2 hc
  clear hl hw hn ok s2 s3
  (refine callF_light rfl pf_expr_writer_expr lf_expr_writer_expr (by simp [K_expr_writer_expr]) ?_; rw [evF_R, K_expr_writer_expr])
  simp (maxSteps := 1000000) (disch := omega) [*]
end Go.TM.R8
