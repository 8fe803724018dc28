/- Expressions: large ones. -/
import Derived.Test.YtgmclgajlofljaaGreatDoorR8A
set_option linter.all false
namespace Go.TM.R8
open Go Go.TM Go.Proofs Go.TM.A8
attribute [-simp] Int.natCast_add Int.natCast_mul List.drop_one
def lgX (xs : List Ex') (i : Nat) : Ex × St := if i < xs.length then (if 400 < (size (gx xs i)).1 then (.ret, ⟨[(2, .sc (.bool true))], emp⟩) else if 80 < (size (gx xs i)).2 then (.ret, ⟨[(2, .sc (.bool true))], emp⟩) else if wide (gx xs i) = true then (.ret, ⟨[(2, .sc (.bool true))], emp⟩) else lgX xs (i + 1)) else (.exit 0, ⟨[], emp⟩)
 termination_by xs.length - i
def long (x : Ex') : Bool := decide (400 < (size x).1) || decide (80 < (size x).2) || wide x
theorem lgX_eq (xs : List Ex') (i : Nat) : lgX xs i = if (xs.drop i).any long = true then (.ret, ⟨[(2, .sc (.bool true))], emp⟩) else (.exit 0, ⟨[], emp⟩) := by
 fun_induction lgX xs i with
 | case1 i h h1 =>
  rw [List.drop_eq_getElem_cons h, List.any_cons]; have : gx xs i = xs[i] := by simp [gx, h]
  rw [this] at h1; simp [long, h1]
 | case2 i h h1 h2 =>
  rw [List.drop_eq_getElem_cons h, List.any_cons]; have : gx xs i = xs[i] := by simp [gx, h]
  rw [this] at h1 h2; simp [long, h2]
 | case3 i h h1 h2 h3 =>
  rw [List.drop_eq_getElem_cons h, List.any_cons]; have : gx xs i = xs[i] := by simp [gx, h]
  rw [this] at h1 h2 h3; simp [long, h3]
 | case4 i h h1 h2 h3 ih =>
  have : gx xs i = xs[i] := by simp [gx, h]
  rw [this] at h1 h2 h3
  rw [ih, List.drop_eq_getElem_cons h, List.any_cons]
  have : long xs[i] = false := by simp only [long, Bool.or_eq_false_iff, decide_eq_false_iff_not]; exact ⟨⟨h1, h2⟩, by simpa using h3⟩
  rw [this, Bool.false_or]
 | case5 i h => rw [List.drop_eq_nil_of_le (by omega)]; rfl
theorem l_long (b : Bool) (xs : List Ex') (i : Nat) (ha : xs.length < 1000000) (hs : ∀ i, i < xs.length → (size (gx xs i)).1 < 2 ^ 61) :
  Lp E 1 33 K_law08_Long_h0 K_law08_Long_b0.c ⟨[(0, gs b 8 (ml Ex'.t xs)), (3, .sc (.int .i64 i))], emp⟩ = some (lgX xs i) := by
 fun_induction lgX xs i
 case case1 i h h1 => have hz := hs i h; clear hs; (rw [Lp_eq]; rw (occs := .pos [1]) [K_law08_Long_b0]); simp (disch := omega) [*]
 case case2 i h h1 h2 => have hz := hs i h; clear hs; (rw [Lp_eq]; rw (occs := .pos [1]) [K_law08_Long_b0]); simp (disch := omega) [*]
 case case3 i h h1 h2 h3 => have hz := hs i h; clear hs; (rw [Lp_eq]; rw (occs := .pos [1]) [K_law08_Long_b0]); simp (disch := omega) [*]
 case case4 i h h1 h2 h3 ih => have hz := hs i h; clear hs; (rw [Lp_eq]; rw (occs := .pos [1]) [K_law08_Long_b0]); simp (disch := omega) [*]
 case case5 i h => clear hs; (rw [Lp_eq]; rw (occs := .pos [1]) [K_law08_Long_b0]); simp (disch := omega) [*]
theorem c_long (b : Bool) (xs : List Ex') (ha : xs.length < 1000000) (hs : ∀ i, i < xs.length → (size (gx xs i)).1 < 2 ^ 61) :
  callF E 0 f_law08_Long [gs b 8 (ml Ex'.t xs)] emp = some (.sc (.bool (xs.any long)), emp) := by
 have h := l_long b xs 0 ha hs
 rw [lgX_eq, List.drop_zero] at h
 clear hs
 try simp only [lenN, Int.cast_ofNat_Int] at *
 generalize xs.any long = q at h ⊢
 (refine callF_light rfl pf_law08_Long lf_law08_Long (by simp [K_law08_Long]) ?_; rw [evF_R, K_law08_Long])
 cases q <;> (try simp (disch := omega) [*]) <;> repeat' ((first | rw [RC_d] | rw [RG_d] | rw [RG_e] | rw [RC_b] | rw [RG_x] | rw [RG_y] | skip); split <;> (try (exfalso; omega)) <;> try simp (disch := omega) [*])
end Go.TM.R8
