/- Expressions: the law ExprRoundTrip. -/
import Derived.Test.YtgmclgajlofljaaGreatDoorV8X
import Derived.Test.YtgmclgajlofljaaGreatDoorR8Lg
import Derived.Test.YtgmclgajlofljaaGreatDoorV8AW
import Derived.Test.YtgmclgajlofljaaGreatDoorV8Z
set_option linter.all false
namespace Go.TM.R8
open Go Go.TM Go.Proofs Go.TM.A8
attribute [-simp] Int.natCast_add Int.natCast_mul List.drop_one
mutual
theorem big_wide : ∀ x : Ex', wide x = false → big x = false
 | .mk op name bn bits vs an args sig width sg, h => by
  rw [wide, Bool.or_eq_false_iff, Bool.or_eq_false_iff] at h
  simp only [decide_eq_false_iff_not] at h
  rw [big, Bool.or_eq_false_iff, Bool.or_eq_false_iff]
  exact ⟨⟨decide_eq_false (by omega), decide_eq_false (by omega)⟩, bigL_wide args h.2⟩
theorem bigL_wide : ∀ xs : List Ex', wideL xs = false → bigL xs = false
 | [], _ => rfl
 | x :: xs, h => by
  rw [wideL, Bool.or_eq_false_iff] at h
  rw [bigL, big_wide x h.1, bigL_wide xs h.2]; rfl
end
theorem big_can : ∀ x : Ex', big x = false → big (can x) = false := by
 refine Ex'.ind3 fun x ih h => ?_
 obtain ⟨h1, h2, h3⟩ := big_no h
 rw [can_eq]
 split
 ·rw [litE, big]; simp [bigL]; omega
 ·rw [big, Bool.or_eq_false_iff, Bool.or_eq_false_iff]
  refine ⟨⟨decide_eq_false (by split <;> simp <;> omega), rfl⟩, ?_⟩
  have : ∀ ys : List Ex', (∀ y ∈ ys, big (can y) = false) → bigL (ys.map can) = false := by
   intro ys
   induction ys with
   | nil => intro _; rfl
   | cons y ys ihy =>
    intro hy
    rw [List.map_cons, bigL, hy y (by simp), ihy fun z hz => hy z (List.mem_cons_of_mem _ hz)]; rfl
  exact this _ fun y hy => ih y hy (bigL_mem _ h3 y hy)
theorem format_ok {x : Ex'} (h : (formatF x).2 = 0) : checkF x = 0 ∧ (txt x).length ≤ 65536 ∧ formatF x = (txt x, 0) := by
 unfold formatF at h ⊢
 split at h
 ·rename_i h0
  split at h
  ·cases h
  ·rename_i h1
   rw [if_pos h0, if_neg h1]
   exact ⟨h0, by omega, rfl⟩
 ·rename_i h0; exact absurd h h0
theorem format_er {x : Ex'} (h : (formatF x).2 ≠ 0) : (formatF x).1 = [] ∧ (checkF x = 0 → (formatF x).2 = 5) := by
 unfold formatF at h ⊢
 split
 ·rename_i h0
  split
  ·exact ⟨rfl, fun _ => rfl⟩
  ·rename_i h1; rw [if_pos h0, if_neg h1] at h; exact absurd rfl h
 ·rename_i h0; exact ⟨rfl, fun h => absurd h h0⟩
theorem fmt_of {x : Ex'} (h : checkF x = 0) (hl : (txt x).length ≤ 65536) : formatF x = (txt x, 0) := by
 unfold formatF
 rw [if_pos h, if_neg (by omega)]
theorem c_rt1 (x : Ex') (s : List UInt8) (i : Int) (hx : (size x).1 < 2 ^ 61) (h : long x = true ∨ 3000 < s.length) : callF E 0 f_law08_ExprRoundTrip [x.t, .sc (str s), .sc (.int .i64 i)] emp = some (.sc (.bool true), emp) := by
 have hl := c_long false [x] (by simp) (by intro i hi; match i, hi with | 0, _ => exact hx)
 rw [gs_false, show ml Ex'.t [x] = [x.t] from rfl] at hl
 have hA := c_awake
 have e : [x].any long = long x := by simp
 rw [e] at hl
 cases hq : long x with
 | true =>
  rw [hq] at hl
  clear hq h
  (refine callF_light rfl pf_law08_ExprRoundTrip lf_law08_ExprRoundTrip (by simp [K_law08_ExprRoundTrip]) ?_; rw [evF_R, K_law08_ExprRoundTrip])
  simp (maxSteps := 1000000) (disch := omega) [*]
 | false =>
  rw [hq] at hl
  have h : 3000 < s.length := by rcases h with h | h; rw [hq] at h; cases h; exact h
  clear hq e
  (refine callF_light rfl pf_law08_ExprRoundTrip lf_law08_ExprRoundTrip (by simp [K_law08_ExprRoundTrip]) ?_; rw [evF_R, K_law08_ExprRoundTrip])
  simp (maxSteps := 1000000) (disch := omega) [*]
structure FirstOk (x : Ex') (t : List UInt8) (e c : Nat) : Prop where
 F : callF E 0 f_expr_Format [x.t] emp = some (.tup [.sc (str t), .sc (.int .i64 (e : Int))], emp)
 C : callF E 0 f_expr_Check [x.t] emp = some (.sc (.int .i64 (c : Int)), emp)
 A : e = 0 → ∃ y : Ex', callF E 0 f_expr_Parse [.sc (str t), .sc (.int .i64 0)] emp = some (.tup [y.t, .sc (.int .i64 (t.length : Int)), .sc (.int .i64 0)], emp) ∧ callF E 0 f_expr_Equal [x.t, y.t] emp = some (.sc (.bool true), emp)
 B : ¬ e = 0 → t = [] ∧ (c = 0 → e = 5)
 L : t.length ≤ 65536
theorem first (x : Ex') (h1 : (size x).1 ≤ 400) (w1 : wide x = false) : ∃ t e c, FirstOk x t e c := by
 have hb := big_wide x w1
 have hF := c_FormatB x (by omega) hb (fun hk => by have := txt_len x w1 hk; omega)
 have hC := c_CheckB x (by omega) hb
 refine ⟨(formatF x).1, (formatF x).2, checkF x, hF, hC, fun he => ?_, fun he => format_er he, ?_⟩
 ·obtain ⟨f1, f2, f3⟩ := format_ok he
  obtain ⟨k1, k2, k3⟩ := can_ok x (check_nodes f1)
  refine ⟨can x, ?_, ?_⟩
  ·have := c_Parse8 (txt x) 0 f2
   rw [parse_txt f1 f2] at this
   rw [f3]; exact this
  ·have := c_equal x (can x) (by omega) (by rw [k1]; omega) hb (big_can x hb)
   rw [k3] at this
   exact this
 ·by_cases he : (formatF x).2 = 0
  ·obtain ⟨f1, f2, f3⟩ := format_ok he
   rw [f3]; exact f2
  ·rw [(format_er he).1]; simp
structure SecondOk (s : List UInt8) (i : Int) (y : Ex') (n : Int) (f : Nat) : Prop where
 P : callF E 0 f_expr_Parse [.sc (str s), .sc (.int .i64 i)] emp = some (.tup [y.t, .sc (.int .i64 n), .sc (.int .i64 (f : Int))], emp)
 A : ¬ f = 0 → n = 0
 B : f = 0 → i < n ∧ n ≤ s.length ∧ callF E 0 f_expr_Check [y.t] emp = some (.sc (.int .i64 0), emp) ∧ callF E 0 f_ref08_Is [y.t, y.t] emp = some (.sc (.bool true), emp) ∧
  ∃ u : List UInt8, u.length ≤ 65536 ∧ callF E 0 f_expr_Format [y.t] emp = some (.tup [.sc (str u), .sc (.int .i64 0)], emp) ∧ callF E 0 f_expr_Parse [.sc (str u), .sc (.int .i64 0)] emp = some (.tup [y.t, .sc (.int .i64 (u.length : Int)), .sc (.int .i64 0)], emp)
theorem second (s : List UInt8) (i : Int) (hs : s.length ≤ 3000) : ∃ y n f, SecondOk s i y n f := by
 refine ⟨(parseF s i).1, (parseF s i).2.1, (parseF s i).2.2, c_Parse8 s i (by omega), fun h => (parse_er h).2, fun h => ?_⟩
 obtain ⟨a, b, e1, e2, e3, e4, e5, e6, e7, e8, _⟩ := parse_ok h (by omega)
 generalize (parseF s i).1 = y at *
 generalize (parseF s i).2.1 = n at *
 have hsz := check_size e5
 have hC := c_CheckB y (by omega) e7
 rw [e5] at hC
 have hF := c_FormatB y (by omega) e7 (fun _ => by omega)
 rw [fmt_of e5 (by omega)] at hF
 have hP := c_Parse8 (txt y) 0 (by omega)
 rw [parse_txt e5 (by omega), e6] at hP
 exact ⟨by omega, by omega, hC, c_Is y (by omega) e7, txt y, by omega, hF, hP⟩
set_option maxRecDepth 200000 in
set_option maxHeartbeats 4000000 in
theorem c_rt2 (x : Ex') (s : List UInt8) (i : Int) (hx : (size x).1 < 2 ^ 61) (h1 : long x = false) (h2 : ¬ 3000 < s.length) : callF E 0 f_law08_ExprRoundTrip [x.t, .sc (str s), .sc (.int .i64 i)] emp = some (.sc (.bool true), emp) := by
 have hl := c_long false [x] (by simp) (by intro i hi; match i, hi with | 0, _ => exact hx)
 rw [gs_false, show ml Ex'.t [x] = [x.t] from rfl] at hl
 have hA := c_awake
 have e : [x].any long = long x := by simp
 rw [e, h1] at hl
 simp only [long, Bool.or_eq_false_iff, decide_eq_false_iff_not] at h1
 obtain ⟨⟨w0, _⟩, w1⟩ := h1
 obtain ⟨t, et, c, ⟨hF, hC, hA1, hB1, hL⟩⟩ := first x (by omega) w1
 obtain ⟨y, n, f, ⟨hP, hA2, hB2⟩⟩ := second s i (by omega)
 clear e w0 w1 hx
 by_cases h0 : et = 0
 ·obtain ⟨z, hz1, hz2⟩ := hA1 h0
  clear hA1 hB1
  subst h0
  by_cases hf : f = 0
  ·obtain ⟨b1, b2, b3, b4, u, b5, b6, b7⟩ := hB2 hf
   subst hf
   clear hA2 hB2
   try simp only [lenN, Int.cast_ofNat_Int] at *
   (refine callF_light rfl pf_law08_ExprRoundTrip lf_law08_ExprRoundTrip (by simp [K_law08_ExprRoundTrip]) ?_; rw [evF_R, K_law08_ExprRoundTrip])
   simp (maxSteps := 1000000) (disch := omega) [*]
  ·have hn := hA2 hf
   subst hn
   clear hA2 hB2
   try simp only [lenN, Int.cast_ofNat_Int] at *
   (refine callF_light rfl pf_law08_ExprRoundTrip lf_law08_ExprRoundTrip (by simp [K_law08_ExprRoundTrip]) ?_; rw [evF_R, K_law08_ExprRoundTrip])
   simp (maxSteps := 1000000) (disch := omega) [*]
 ·obtain ⟨ht, hc5⟩ := hB1 h0
  subst ht
  clear hA1 hB1
  have hcd : (decide (c = 0) && !decide (et = 5)) = false := by
   by_cases hc : c = 0
   ·simp [hc5 hc]
   ·simp [hc]
  by_cases hf : f = 0
  ·obtain ⟨b1, b2, b3, b4, u, b5, b6, b7⟩ := hB2 hf
   subst hf
   clear hA2 hB2
   by_cases hc : c = 0
   ·have he5 := hc5 hc
    subst hc; subst he5
    clear hc5 hcd h0
    try simp only [lenN, Int.cast_ofNat_Int] at *
    (refine callF_light rfl pf_law08_ExprRoundTrip lf_law08_ExprRoundTrip (by simp [K_law08_ExprRoundTrip]) ?_; rw [evF_R, K_law08_ExprRoundTrip])
    simp (maxSteps := 1000000) (disch := omega) [*]
   ·clear hc5 hcd
    try simp only [lenN, Int.cast_ofNat_Int] at *
    (refine callF_light rfl pf_law08_ExprRoundTrip lf_law08_ExprRoundTrip (by simp [K_law08_ExprRoundTrip]) ?_; rw [evF_R, K_law08_ExprRoundTrip])
    simp (maxSteps := 1000000) (disch := omega) [*]
  ·have hn := hA2 hf
   subst hn
   clear hA2 hB2
   by_cases hc : c = 0
   ·have he5 := hc5 hc
    subst hc; subst he5
    clear hc5 hcd h0
    try simp only [lenN, Int.cast_ofNat_Int] at *
    (refine callF_light rfl pf_law08_ExprRoundTrip lf_law08_ExprRoundTrip (by simp [K_law08_ExprRoundTrip]) ?_; rw [evF_R, K_law08_ExprRoundTrip])
    simp (maxSteps := 1000000) (disch := omega) [*]
   ·clear hc5 hcd
    try simp only [lenN, Int.cast_ofNat_Int] at *
    (refine callF_light rfl pf_law08_ExprRoundTrip lf_law08_ExprRoundTrip (by simp [K_law08_ExprRoundTrip]) ?_; rw [evF_R, K_law08_ExprRoundTrip])
    simp (maxSteps := 1000000) (disch := omega) [*]
theorem c_rt (x : Ex') (s : List UInt8) (i : Int) (hx : (size x).1 < 2 ^ 61) : callF E 0 f_law08_ExprRoundTrip [x.t, .sc (str s), .sc (.int .i64 i)] emp = some (.sc (.bool true), emp) := by
 by_cases h : long x = true ∨ 3000 < s.length
 ·exact c_rt1 x s i hx h
 ·have h1 : long x = false := by
   cases hq : long x with
   | true => exact absurd (.inl hq) h
   | false => rfl
  exact c_rt2 x s i hx h1 (fun h2 => h (.inr h2))
end Go.TM.R8
