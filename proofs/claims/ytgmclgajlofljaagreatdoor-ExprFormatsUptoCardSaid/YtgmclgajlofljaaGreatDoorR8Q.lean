/- Expressions: Format by both, and the law ExprFormats. -/
import Derived.Test.YtgmclgajlofljaaGreatDoorR8Z
import Derived.Test.YtgmclgajlofljaaGreatDoorR8A
set_option linter.all false
namespace Go.TM.R8
open Go Go.TM Go.Proofs Go.TM.A8
attribute [-simp] Int.natCast_add Int.natCast_mul List.drop_one
def formatF (x : Ex') : List UInt8 × Nat := if checkF x = 0 then (if 65536 < (txt x).length then ([], 5) else (txt x, 0)) else ([], checkF x)
theorem check_nodes {x : Ex'} (h : checkF x = 0) : chkN x = 0 := by
 unfold checkF at h
 split at h
 ·cases h
 ·exact h
theorem arnd_ne (a : List (List (List UInt8))) (t : List UInt8) (ts : List (List UInt8)) : arnd a (t :: ts) ≠ [] := by
 cases a <;> simp [arnd]
theorem node_ne (op : Nat) (name : List UInt8) (bits : List Nat) (vs : Bool) (a : List (List (List UInt8))) : node op name bits vs a ≠ [] := by
 unfold node
 by_cases hc0 : op = 1
 ·rw [if_pos hc0]; simp
 rw [if_neg hc0]
 by_cases hc1 : op = 2
 ·rw [if_pos hc1]; simp
 rw [if_neg hc1]
 by_cases hc2 : op = 3
 ·rw [if_pos hc2]; simp
 rw [if_neg hc2]
 by_cases hc3 : op = 4
 ·rw [if_pos hc3]; exact arnd_ne _ _ _
 rw [if_neg hc3]
 by_cases hc4 : op = 5
 ·rw [if_pos hc4]; exact arnd_ne _ _ _
 rw [if_neg hc4]
 by_cases hc5 : op = 6
 ·rw [if_pos hc5]; simp
 rw [if_neg hc5]
 by_cases hc6 : op = 7
 ·rw [if_pos hc6]; simp [arnd_ne]
 rw [if_neg hc6]
 by_cases hc7 : op = 8
 ·rw [if_pos hc7]; simp
 rw [if_neg hc7]
 by_cases hc8 : op = 9
 ·rw [if_pos hc8]; simp
 rw [if_neg hc8]
 by_cases hc9 : op = 10
 ·rw [if_pos hc9]; exact arnd_ne _ _ _
 rw [if_neg hc9]
 by_cases hc10 : op < 21
 ·rw [if_pos hc10]; exact arnd_ne _ _ _
 rw [if_neg hc10]
 exact arnd_ne _ _ _
theorem adds_s : ∀ (xs : List (List UInt8)) (g : Nat) (b : List UInt8), ∃ g', adds (some (g, b)) xs = some (g', b ++ xs.flatten)
 | [], g, b => ⟨g, by simp [adds]⟩
 | x :: xs, g, b => by
  obtain ⟨g', h⟩ := adds_s xs (g + 1) (b ++ x)
  exact ⟨g', by rw [adds]; show adds (some (g + 1, b ++ x)) xs = _; rw [h]; simp⟩
theorem adds_n (xs : List (List UInt8)) (h : xs ≠ []) : ∃ g, adds none xs = some (g, xs.flatten) := by
 cases xs with
 | nil => exact absurd rfl h
 | cons x xs => obtain ⟨g, h⟩ := adds_s xs 0 x; exact ⟨g, h⟩
theorem c_Len1 (d g : Nat) (b : List UInt8) (S : Store) (hS : trunc 1 S = S) (hd : d < 7000) (hb : b.length < 1000000000) : callF E 1 f_Builder_Len [.ptr (1, d) 0] (W.bld1 d g b S) = some (.sc (.int .i64 b.length), W.bld1 d g b S) := by
 have h1 : ¬ d = 7000 := by omega
 have h2 : ¬ 7000 = d := by omega
 unfold W.bld1
 (refine callF_light rfl pf_Builder_Len lf_Builder_Len (by simp [K_Builder_Len]) ?_; rw [evF_R, K_Builder_Len])
 simp (disch := omega) [W.trunc_maskT, *]
theorem txt_pos {x : Ex'} (hk : chkN x = 0) : 0 < (txt x).length := by
 have ok := ok_of hk
 have A : ∀ a t ts, 0 < List.length t → 0 < (arnd a (t :: ts)).flatten.length := fun a t ts h => Nat.lt_of_lt_of_le h (arnd_ge a t ts)
 have N : ∀ k, x.op = k → named k = true → 0 < x.name.length := fun k h1 h2 => ident_pos (ok.nm (by rw [h1]; exact h2))
 unfold txt
 rw [pc_eq]
 unfold node
 by_cases hc0 : x.op = 1
 ·rw [if_pos hc0]; have := (numF_pos (sg := x.vs) (ok.li hc0)).1; simp only [List.flatten_cons, List.flatten_nil, List.append_nil]; exact this
 rw [if_neg hc0]
 by_cases hc1 : x.op = 2
 ·rw [if_pos hc1]; have := N 2 hc1 rfl; simp only [List.flatten_cons, List.flatten_nil, List.append_nil]; exact this
 rw [if_neg hc1]
 by_cases hc2 : x.op = 3
 ·rw [if_pos hc2]; have := N 3 hc2 rfl; simp only [List.flatten_cons, List.length_append]; omega
 rw [if_neg hc2]
 by_cases hc3 : x.op = 4
 ·rw [if_pos hc3]; exact A _ _ _ (by simp)
 rw [if_neg hc3]
 by_cases hc4 : x.op = 5
 ·rw [if_pos hc4]; exact A _ _ _ (by simp)
 rw [if_neg hc4]
 by_cases hc5 : x.op = 6
 ·rw [if_pos hc5]; simp
 rw [if_neg hc5]
 by_cases hc6 : x.op = 7
 ·rw [if_pos hc6]; rw [List.flatten_append, List.length_append]; have := A (List.take 1 (x.args.map pc)) [123] [[123]] (by simp); omega
 rw [if_neg hc6]
 by_cases hc7 : x.op = 8
 ·rw [if_pos hc7]; have := N 8 hc7 rfl; simp only [List.flatten_cons, List.length_append]; omega
 rw [if_neg hc7]
 by_cases hc8 : x.op = 9
 ·rw [if_pos hc8]; have := sys_pos (ok.sy hc8); simp only [List.flatten_cons, List.length_append]; omega
 rw [if_neg hc8]
 by_cases hc9 : x.op = 10
 ·rw [if_pos hc9]; exact A _ _ _ (by simp)
 rw [if_neg hc9]
 by_cases hc10 : x.op < 21
 ·rw [if_pos hc10]; exact A _ _ _ (by simp)
 rw [if_neg hc10]
 exact A _ _ _ (by simp)
def lowX (x : Ex') : LowS := ⟨upd emp (1, 1) (.box y_api_Expr x.t.cells), by simp, by simp [upd_ap, emp]⟩
theorem c_Format8 (x : Ex') (hs : (size x).1 < 900000) (hw : wide x = false) : callF E 0 f_expr_Format [x.t] emp = some (.tup [.sc (str (formatF x).1), .sc (.int .i64 ((formatF x).2 : Int))], emp) := by
 have hC := c_Check8 x hs hw
 unfold formatF
 by_cases h0 : checkF x = 0
 ·rw [if_pos h0]
  rw [h0] at hC
  have hk := check_nodes h0
  have hl := txt_len x hw hk
  have hW := wr x hs hk none (lowX x) (by rw [bl_adds]; show 0 + (txt x).length < _; omega)
  obtain ⟨g, hg⟩ := adds_n (pc x) (by rw [pc_eq]; exact node_ne _ _ _ _ _)
  rw [hg] at hW
  change callF E 1 f_expr_writer_expr [.ptr (1, 12) 0, x.t] (W.bld0 12 (lowX x).S) = some (.tup [], W.bld1 12 g (txt x) (lowX x).S) at hW
  have hL := c_Len1 12 g (txt x) (lowX x).S (lowX x).h1 (by decide) (by omega)
  have hp := txt_pos hk
  have hR := W.c_BString1 12 g (txt x) (lowX x).S
  rw [if_pos ⟨(lowX x).h1, by decide, hp, by omega⟩] at hR
  generalize txt x = b at *
  unfold lowX at hW hL hR
  unfold W.bld0 W.bld1 at hW
  unfold W.bld1 at hL
  unfold W.bld1 W.bldR at hR
  simp only [] at hW hL hR
  by_cases h5 : 65536 < b.length
  ·rw [if_pos h5]
   clear hl hp hg hk h0 hs hw
   try simp only [lenN, Int.cast_ofNat_Int] at *
   (refine callF_light rfl pf_expr_Format lf_expr_Format (by simp [K_expr_Format]) ?_; rw [evF_R, K_expr_Format])
   simp (disch := omega) [*]
  ·rw [if_neg h5]
   clear hl hp hg hk h0 hs hw
   try simp only [lenN, Int.cast_ofNat_Int] at *
   (refine callF_light rfl pf_expr_Format lf_expr_Format (by simp [K_expr_Format]) ?_; rw [evF_R, K_expr_Format])
   simp (disch := omega) [*]
 ·rw [if_neg h0]
  have h0 : decide (checkF x = 0) = false := by simpa using h0
  generalize checkF x = c at *
  clear hs hw
  (refine callF_light rfl pf_expr_Format lf_expr_Format (by simp [K_expr_Format]) ?_; rw [evF_R, K_expr_Format])
  simp (disch := omega) [*]
theorem c_rFormat8 (x : Ex') (hs : (size x).1 < 900000) (hw : wide x = false) : callF E 0 f_ref08_Format [x.t] emp = some (.tup [.sc (str (formatF x).1), .sc (.int .i64 ((formatF x).2 : Int))], emp) := by
 have hC := c_rCheck8 x hs hw
 unfold formatF
 by_cases h0 : checkF x = 0
 ·rw [if_pos h0]
  rw [h0] at hC
  have hk := check_nodes h0
  have hT := txC x hs hw hk
  generalize txt x = b at *
  by_cases h5 : 65536 < b.length
  ·rw [if_pos h5]
   clear hk h0 hs hw
   try simp only [lenN, Int.cast_ofNat_Int] at *
   (refine callF_light rfl pf_ref08_Format lf_ref08_Format (by simp [K_ref08_Format]) ?_; rw [evF_R, K_ref08_Format])
   simp (disch := omega) [*]
  ·rw [if_neg h5]
   clear hk h0 hs hw
   try simp only [lenN, Int.cast_ofNat_Int] at *
   (refine callF_light rfl pf_ref08_Format lf_ref08_Format (by simp [K_ref08_Format]) ?_; rw [evF_R, K_ref08_Format])
   simp (disch := omega) [*]
 ·rw [if_neg h0]
  have h0 : decide (checkF x = 0) = false := by simpa using h0
  generalize checkF x = c at *
  clear hs hw
  (refine callF_light rfl pf_ref08_Format lf_ref08_Format (by simp [K_ref08_Format]) ?_; rw [evF_R, K_ref08_Format])
  simp (disch := omega) [*]
theorem c_fmt8 (x : Ex') (hx : (size x).1 < 2 ^ 61) : callF E 0 f_law08_ExprFormats [x.t] emp = some (.sc (.bool true), emp) := by
 have hl := c_long false [x] (by simp) (by intro i hi; match i, hi with | 0, _ => exact hx)
 rw [gs_false, show ml Ex'.t [x] = [x.t] from rfl] at hl
 have hA := c_awake
 cases hq : [x].any long with
 | true =>
  rw [hq] at hl
  clear hq
  (refine callF_light rfl pf_law08_ExprFormats lf_law08_ExprFormats (by simp [K_law08_ExprFormats]) ?_; rw [evF_R, K_law08_ExprFormats])
  simp (disch := omega) [*]
 | false =>
  rw [hq] at hl
  simp only [List.any_cons, List.any_nil, Bool.or_false, Bool.or_eq_false_iff, long, decide_eq_false_iff_not] at hq
  obtain ⟨⟨w0, _⟩, w1⟩ := hq
  have h1 := c_Format8 x (by omega) w1
  have h2 := c_rFormat8 x (by omega) w1
  have h3 := c_Check8 x (by omega) w1
  have h4 := c_rCheck8 x (by omega) w1
  generalize formatF x = p at *
  generalize checkF x = c at *
  clear w0 w1 hx
  (refine callF_light rfl pf_law08_ExprFormats lf_law08_ExprFormats (by simp [K_law08_ExprFormats]) ?_; rw [evF_R, K_law08_ExprFormats])
  simp (disch := omega) [*]
end Go.TM.R8
