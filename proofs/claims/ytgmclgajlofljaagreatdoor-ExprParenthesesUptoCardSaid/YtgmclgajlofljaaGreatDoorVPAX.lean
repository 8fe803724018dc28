/- Expressions: the law ExprParentheses. -/
import Derived.Test.YtgmclgajlofljaaGreatDoorVRT
import Derived.Test.YtgmclgajlofljaaGreatDoorVPA
set_option linter.all false
namespace Go.TM.R8
open Go Go.TM Go.Proofs Go.TM.A8
attribute [-simp] Int.natCast_add Int.natCast_mul List.drop_one
theorem cat_of (a b c : List UInt8) (h : a ++ b = c) (hl : c.length < 1099511627776) : binT .add (.sc (str a)) (.sc (str b)) = some (.sc (str c)) := by
 subst h; exact bin_cat2 a b (by rw [List.length_append] at hl; omega)
set_option maxRecDepth 200000 in
set_option maxHeartbeats 4000000 in
theorem c_pa (x : Ex') (p q : List UInt8) (hx : (size x).1 < 2 ^ 61) : callF E 0 f_law08_ExprParentheses [x.t, .sc (str p), .sc (str q)] emp = some (.sc (.bool true), emp) := by
 have hl := c_long false [x] (by simp) (by intro i hi; match i, hi with | 0, _ => exact hx)
 rw [gs_false, show ml Ex'.t [x] = [x.t] from rfl] at hl
 have hA := c_awake
 have e : [x].any long = long x := by simp
 rw [e] at hl
 by_cases h1 : long x = true
 ·rw [h1] at hl
  clear h1
  (refine callF_light rfl pf_law08_ExprParentheses lf_law08_ExprParentheses (by simp [K_law08_ExprParentheses]) ?_; rw [evF_R, K_law08_ExprParentheses])
  simp (maxSteps := 1000000) (disch := omega) [*]
 have h1 : long x = false := by simpa using h1
 rw [h1] at hl
 by_cases h2 : 1000 < p.length
 ·clear e
  (refine callF_light rfl pf_law08_ExprParentheses lf_law08_ExprParentheses (by simp [K_law08_ExprParentheses]) ?_; rw [evF_R, K_law08_ExprParentheses])
  simp (maxSteps := 1000000) (disch := omega) [*]
 by_cases h3 : 1000 < q.length
 ·clear e
  (refine callF_light rfl pf_law08_ExprParentheses lf_law08_ExprParentheses (by simp [K_law08_ExprParentheses]) ?_; rw [evF_R, K_law08_ExprParentheses])
  simp (maxSteps := 1000000) (disch := omega) [*]
 simp only [long, Bool.or_eq_false_iff, decide_eq_false_iff_not] at h1
 obtain ⟨⟨w0, _⟩, w1⟩ := h1
 have hb := big_wide x w1
 have hF := c_FormatB x (by omega) hb (fun hk => by have := txt_len x w1 hk; omega)
 have hS := c_size x (by omega)
 by_cases h0 : (formatF x).2 = 0
 ·obtain ⟨f1, f2, f3⟩ := format_ok h0
  rw [f3] at hF
  by_cases hd : 50 < (size x).2
  ·clear hb w0 w1 hx e f3
   (refine callF_light rfl pf_law08_ExprParentheses lf_law08_ExprParentheses (by simp [K_law08_ExprParentheses]) ?_; rw [evF_R, K_law08_ExprParentheses])
   simp (maxSteps := 1000000) (disch := omega) [*]
  by_cases hn : 60000 < (txt x).length + p.length + q.length
  ·clear hb w0 w1 hx e f3
   (refine callF_light rfl pf_law08_ExprParentheses lf_law08_ExprParentheses (by simp [K_law08_ExprParentheses]) ?_; rw [evF_R, K_law08_ExprParentheses])
   simp (maxSteps := 1000000) (disch := omega) [*]
  obtain ⟨k1, k2, k3⟩ := can_ok x (check_nodes f1)
  have hE := c_equal x (can x) (by omega) (by rw [k1]; omega) hb (big_can x hb)
  rw [k3] at hE
  have b1 : (p ++ 40 :: (txt x ++ 41 :: 59 :: q)).length ≤ 65536 := by simp only [List.length_append, List.length_cons]; omega
  have b2 : (p ++ 10 :: 32 :: 47 :: 47 :: 32 :: 40 :: 10 :: 40 :: 32 :: 40 :: 32 :: (txt x ++ 9 :: 41 :: 32 :: 41 :: 32 :: 59 :: q)).length ≤ 65536 := by simp only [List.length_append, List.length_cons]; omega
  have hP1 := c_Parse8 _ (p.length : Int) b1
  rw [par1 f1 p q b1] at hP1
  have hP2 := c_Parse8 _ (p.length : Int) b2
  rw [par2 f1 (by omega) p q b2] at hP2
  generalize txt x = t at *
  have c1 := cat_of p [40] (p ++ [40]) rfl (by simp only [List.length_append, List.length_cons, List.length_nil]; omega)
  have c2 := cat_of (p ++ [40]) t (p ++ 40 :: t) (by simp) (by simp only [List.length_append, List.length_cons, List.length_nil]; omega)
  have c3 := cat_of (p ++ 40 :: t) [41, 59] (p ++ 40 :: (t ++ [41, 59])) (by simp) (by simp only [List.length_append, List.length_cons, List.length_nil]; omega)
  have c4 := cat_of (p ++ 40 :: (t ++ [41, 59])) q (p ++ 40 :: (t ++ 41 :: 59 :: q)) (by simp) (by omega)
  have d1 := cat_of p [10, 32, 47, 47, 32, 40, 10, 40, 32, 40, 32] (p ++ [10, 32, 47, 47, 32, 40, 10, 40, 32, 40, 32]) rfl (by simp only [List.length_append, List.length_cons, List.length_nil]; omega)
  have d2 := cat_of (p ++ [10, 32, 47, 47, 32, 40, 10, 40, 32, 40, 32]) t (p ++ 10 :: 32 :: 47 :: 47 :: 32 :: 40 :: 10 :: 40 :: 32 :: 40 :: 32 :: t) (by simp) (by simp only [List.length_append, List.length_cons, List.length_nil]; omega)
  have d3 := cat_of (p ++ 10 :: 32 :: 47 :: 47 :: 32 :: 40 :: 10 :: 40 :: 32 :: 40 :: 32 :: t) [9, 41, 32, 41, 32, 59] (p ++ 10 :: 32 :: 47 :: 47 :: 32 :: 40 :: 10 :: 40 :: 32 :: 40 :: 32 :: (t ++ [9, 41, 32, 41, 32, 59])) (by simp) (by simp only [List.length_append, List.length_cons, List.length_nil]; omega)
  have d4 := cat_of (p ++ 10 :: 32 :: 47 :: 47 :: 32 :: 40 :: 10 :: 40 :: 32 :: 40 :: 32 :: (t ++ [9, 41, 32, 41, 32, 59])) q (p ++ 10 :: 32 :: 47 :: 47 :: 32 :: 40 :: 10 :: 40 :: 32 :: 40 :: 32 :: (t ++ 9 :: 41 :: 32 :: 41 :: 32 :: 59 :: q)) (by simp) (by omega)
  clear b1 b2 hb w0 w1 hx e f1 f3 h0 k1 k2 k3
  try simp only [lenN, Int.cast_ofNat_Int] at *
  (refine callF_light rfl pf_law08_ExprParentheses lf_law08_ExprParentheses (by simp [K_law08_ExprParentheses]) ?_; rw [evF_R, K_law08_ExprParentheses])
  simp (maxSteps := 1000000) (disch := omega) [*]
 ·generalize formatF x = r at *
  clear hb w0 w1 hx e
  (refine callF_light rfl pf_law08_ExprParentheses lf_law08_ExprParentheses (by simp [K_law08_ExprParentheses]) ?_; rw [evF_R, K_law08_ExprParentheses])
  simp (maxSteps := 1000000) (disch := omega) [*]
end Go.TM.R8
