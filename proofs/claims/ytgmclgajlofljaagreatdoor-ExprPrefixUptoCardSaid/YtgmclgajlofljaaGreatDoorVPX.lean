/- Expressions: the law ExprPrefix. -/
import Derived.Test.YtgmclgajlofljaaGreatDoorVRT
import Derived.Test.YtgmclgajlofljaaGreatDoorVPF
set_option linter.all false
namespace Go.TM.R8
open Go Go.TM Go.Proofs Go.TM.A8
attribute [-simp] Int.natCast_add Int.natCast_mul List.drop_one
theorem remn (n m : Nat) (h : n < 2 ^ 63) (hm : m < 2 ^ 63) (h0 : 0 < m) : binT .rem (.sc (.int .i64 (n : Int))) (.sc (.int .i64 (m : Int))) = some (.sc (.int .i64 ((n % m : Nat) : Int))) := by
 simp only [binT, binS]
 rw [if_pos ⟨trivial, by omega⟩, Int.tmod_eq_emod_of_nonneg (by omega)]
 rfl
theorem c_pf (x : Ex') (w : Nat) (hw : w < 65536) (hx : (size x).1 < 2 ^ 61) : callF E 0 f_law08_ExprPrefix [x.t, .sc (.int .u16 (w : Int))] emp = some (.sc (.bool true), emp) := by
 have hl := c_long false [x] (by simp) (by intro i hi; match i, hi with | 0, _ => exact hx)
 rw [gs_false, show ml Ex'.t [x] = [x.t] from rfl] at hl
 have hA := c_awake
 have e : [x].any long = long x := by simp
 rw [e] at hl
 by_cases h1 : long x = true
 ·rw [h1] at hl
  clear h1
  (refine callF_light rfl pf_law08_ExprPrefix lf_law08_ExprPrefix (by simp [K_law08_ExprPrefix]) ?_; rw [evF_R, K_law08_ExprPrefix])
  simp (maxSteps := 1000000) (disch := omega) [*]
 have h1 : long x = false := by simpa using h1
 rw [h1] at hl
 simp only [long, Bool.or_eq_false_iff, decide_eq_false_iff_not] at h1
 obtain ⟨⟨w0, _⟩, w1⟩ := h1
 have hb := big_wide x w1
 have hF := c_FormatB x (by omega) hb (fun hk => by have := txt_len x w1 hk; omega)
 by_cases h0 : (formatF x).2 = 0
 ·obtain ⟨f1, f2, f3⟩ := format_ok h0
  rw [f3] at hF
  have hpos := txt_pos (check_nodes f1)
  have hcut := fun c r hc hb k hk => cut_bad f1 f2 (c := c) (r := r) hc hb k hk
  have hP0 := fun k => c_Parse8 ((txt x).take k) 0 (by simp; omega)
  generalize txt x = t at *
  by_cases hB : B t 0 = 40 ∨ B t 0 = 123
  ·have hk : w % t.length < t.length := Nat.mod_lt _ hpos
   have hb2 : ∃ c r, t = c :: r ∧ (c = 40 ∨ c = 123) := by
    cases t with
    | nil => simp at hpos
    | cons c r =>
     refine ⟨c, r, rfl, ?_⟩
     rcases hB with h | h
     ·exact .inl (by apply UInt8.toNat_inj.1; exact h)
     ·exact .inr (by apply UInt8.toNat_inj.1; exact h)
   obtain ⟨c, r, hc1, hc2⟩ := hb2
   have hne := hcut c r hc1 hc2 _ hk
   have hP := hP0 (w % t.length)
   generalize parseF (t.take (w % t.length)) 0 = p at *
   have hrm := remn w t.length (by omega) (by omega) hpos
   have hte : ¬ t = [] := by intro e; subst e; simp at hpos
   clear hP0 hcut hc1 hc2 f1 f3 hb w0 w1 hx h0 e
   generalize w % t.length = k at *
   rcases hB with hB | hB
   ·try simp only [lenN, Int.cast_ofNat_Int] at *
    (refine callF_light rfl pf_law08_ExprPrefix lf_law08_ExprPrefix (by simp [K_law08_ExprPrefix]) ?_; rw [evF_R, K_law08_ExprPrefix])
    simp (maxSteps := 1000000) (disch := omega) [*]
   ·try simp only [lenN, Int.cast_ofNat_Int] at *
    (refine callF_light rfl pf_law08_ExprPrefix lf_law08_ExprPrefix (by simp [K_law08_ExprPrefix]) ?_; rw [evF_R, K_law08_ExprPrefix])
    simp (maxSteps := 1000000) (disch := omega) [*]
  ·have hte : ¬ t = [] := by intro e; subst e; simp at hpos
   have hB1 : ¬ B t 0 = 40 := fun e => hB (.inl e)
   have hB2 : ¬ B t 0 = 123 := fun e => hB (.inr e)
   clear hB hcut hP0 f1 f3 hb w0 w1 hx h0 e
   try simp only [lenN, Int.cast_ofNat_Int] at *
   (refine callF_light rfl pf_law08_ExprPrefix lf_law08_ExprPrefix (by simp [K_law08_ExprPrefix]) ?_; rw [evF_R, K_law08_ExprPrefix])
   simp (maxSteps := 1000000) (disch := omega) [*]
 ·generalize formatF x = p at *
  clear hb w0 w1 hx e
  (refine callF_light rfl pf_law08_ExprPrefix lf_law08_ExprPrefix (by simp [K_law08_ExprPrefix]) ?_; rw [evF_R, K_law08_ExprPrefix])
  simp (maxSteps := 1000000) (disch := omega) [*]
end Go.TM.R8
