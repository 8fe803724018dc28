/- Token: the law's copies of its argument, and its size. -/
import Derived.Test.YtioldkniiilhnaaGreatDoorR7FG
import Derived.Test.YtioldkniiilhnaaGreatDoorR7W
set_option linter.all false
namespace Go.TM.R7
open Go Go.TM Go.Proofs Go.TM.A7
attribute [-simp] Int.natCast_add Int.natCast_mul List.drop_one
theorem gs_ml (b : Bool) (us : List Tk) (h : 0 < us.length) : gs b 4 (ml Tk.t us) = .lst 4 (ml Tk.t us) := by
 cases us with
 | nil => simp at h
 | cons u us => exact gs_cons b 4 _ _
theorem l_given (us : List Tk) (hl : us.length ≤ 9999) : ∀ k i, i + k = us.length → 0 < i →
  Lp E 1 19 K_law07_given_h0 K_law07_given_b0.c ⟨[(0, .lst 4 (ml Tk.t us)), (3, .own (1, 17) 0 0 i), (4, .sc (.int .i64 (i : Int)))], upd emp (1, 17) (.arr false 0 4 35 (ml Tk.t (us.take i)))⟩ =
   some (.exit 0, ⟨[(3, .own (1, 17) 0 0 us.length)], upd emp (1, 17) (.arr false 0 4 35 (ml Tk.t us))⟩) := by
 intro k
 induction k with
 | zero =>
  intro i hi hp
  obtain rfl : i = us.length := by omega
  rw [List.take_length]
  clear hi
  (rw [Lp_eq]; rw (occs := .pos [1]) [K_law07_given_b0])
  simp (disch := omega) [*]
 | succ k ih =>
  intro i hi hp
  have h1 : i < us.length := by omega
  have ih := ih (i + 1) (by omega) (by omega)
  have ht := gx_take us i h1
  have hl2 : (us.take i).length ≤ 999999999 := by rw [List.length_take]; omega
  have hl3 : (us.take i).length = i := by rw [List.length_take]; omega
  rw [← ht] at ih
  clear hi ht
  generalize us.take i = vs at *
  have m1 := tk_app vs (gx us i)
  subst hl3
  generalize hX : Lp E 1 19 K_law07_given_h0 K_law07_given_b0.c ⟨[(0, .lst 4 (ml Tk.t us)), (3, .own (1, 17) 0 0 (vs.length + 1)), (4, .sc (.int .i64 ((vs.length + 1 : Nat) : Int)))], upd emp (1, 17) (.arr false 0 4 35 (ml Tk.t (vs ++ [gx us vs.length])))⟩ = X at ih
  (rw [Lp_eq]; rw (occs := .pos [1]) [K_law07_given_b0])
  simp (disch := omega) [Tk.t, Tk.cs, *]
theorem c_givenL (us : List Tk) (hl : us.length ≤ 9999) (h1 : 0 < us.length) : callF E 0 f_law07_given [.lst 4 (ml Tk.t us)] emp = some (.lst 4 (ml Tk.t us), emp) := by
 have h := l_given us hl (us.length - 1) 1 (by omega) (by omega)
 have ht := gx_take us 0 h1
 rw [List.take_zero, List.nil_append] at ht
 rw [← ht] at h
 unfold ml at h
 simp only [List.map_cons, List.map_nil, Tk.t, Tk.cs] at h
 change Lp E 1 19 K_law07_given_h0 K_law07_given_b0.c ⟨[(0, .lst 4 (ml Tk.t us)), _, _], _⟩ = some (_, ⟨_, upd emp (1, 17) (.arr false 0 4 35 (ml Tk.t us))⟩) at h
 clear ht
 try simp only [lenN, Int.cast_ofNat_Int] at *
 (refine callF_light rfl pf_law07_given lf_law07_given (by simp [K_law07_given]) ?_; rw [evF_R, K_law07_given])
 simp (disch := omega) [*]
 generalize hX : Lp E 1 19 K_law07_given_h0 K_law07_given_b0.c ⟨[(0, .lst 4 (ml Tk.t us)), (3, .own (1, 17) 0 0 1), (4, .sc (.int .i64 1))], _⟩ = X at h
 (rw [Lp_eq]; rw (occs := .pos [1]) [K_law07_given_b0])
 simp (disch := omega) [Tk.t, Tk.cs, *]
theorem c_givenN (b : Bool) : callF E 0 f_law07_given [gs b 4 []] emp = some (.sc (.slice none 0 0), emp) := by
 cases b
 ·rw [gs_false]
  (refine callF_light rfl pf_law07_given lf_law07_given (by simp [K_law07_given]) ?_; rw [evF_R, K_law07_given])
  simp (disch := omega) [*]
  (rw [Lp_eq]; rw (occs := .pos [1]) [K_law07_given_b0])
  simp (disch := omega) [*]
 ·rw [gs_true_nil]
  (refine callF_light rfl pf_law07_given lf_law07_given (by simp [K_law07_given]) ?_; rw [evF_R, K_law07_given])
  simp (disch := omega) [*]
  (rw [Lp_eq]; rw (occs := .pos [1]) [K_law07_given_b0])
  simp (disch := omega) [*]
theorem c_given (b : Bool) (us : List Tk) (hl : us.length ≤ 9999) : callF E 0 f_law07_given [gs b 4 (ml Tk.t us)] emp = some (gs true 4 (ml Tk.t us), emp) := by
 by_cases h : us = []
 ·subst h
  exact c_givenN b
 ·have h := List.length_pos_iff.2 h
  rw [gs_ml b us h, gs_ml true us h]
  exact c_givenL us hl h
def ltF (us : List Tk) (i n : Nat) : Option Nat := if i < us.length then (if 1000 < (gx us i).tx.length ∨ 300 < (gx us i).bits.length then none else ltF us (i + 1) (n + (gx us i).tx.length)) else some n
 termination_by us.length - i
def ltX : Option Nat → Ex × St
 | some n => (.exit 0, ⟨[(3, .sc (.int .i64 (n : Int)))], emp⟩)
 | none => (.ret, ⟨[(2, .sc (.bool true))], emp⟩)
theorem l_long (b : Bool) (us : List Tk) (i n : Nat) (hl : us.length ≤ 9999) (hn : n ≤ 1000 * i) (hi : i ≤ us.length) :
  Lp E 1 41 K_law07_longTokens_h0 K_law07_longTokens_b0.c ⟨[(0, gs b 4 (ml Tk.t us)), (3, .sc (.int .i64 (n : Int))), (4, .sc (.int .i64 (i : Int)))], emp⟩ = some (ltX (ltF us i n)) := by
 fun_induction ltF us i n
 case case1 i n h1 h2 =>
  simp only [ltX]
  by_cases h3 : 1000 < (gx us i).tx.length
  ·clear h2
   (rw [Lp_eq]; rw (occs := .pos [1]) [K_law07_longTokens_b0])
   simp (disch := omega) [Tk.t, Tk.cs, *]
  ·have h4 : 300 < (gx us i).bits.length := by omega
   clear h2
   (rw [Lp_eq]; rw (occs := .pos [1]) [K_law07_longTokens_b0])
   simp (disch := omega) [Tk.t, Tk.cs, *]
 case case2 i n h1 h2 ih =>
  have ih := ih (by omega) (by omega)
  have h3 : ¬ 1000 < (gx us i).tx.length := by omega
  have h4 : ¬ 300 < (gx us i).bits.length := by omega
  have h5 : n ≤ 1000 * 9999 := by omega
  clear h2 hn
  generalize ltX (ltF us (i + 1) (n + (gx us i).tx.length)) = w at *
  (rw [Lp_eq]; rw (occs := .pos [1]) [K_law07_longTokens_b0])
  simp (disch := omega) [Tk.t, Tk.cs, *]
 case case3 i n h1 =>
  simp only [ltX]
  (rw [Lp_eq]; rw (occs := .pos [1]) [K_law07_longTokens_b0])
  simp (disch := omega) [*]
end Go.TM.R7
namespace Go.TM.R7
open Go Go.TM Go.Proofs Go.TM.A7
attribute [-simp] Int.natCast_add Int.natCast_mul List.drop_one
def longF (us : List Tk) : Bool := if 100 < us.length then true else match ltF us 0 0 with | none => true | some n => decide (3000 < n)
theorem c_long (b : Bool) (us : List Tk) (hl : us.length < 2 ^ 62) : callF E 0 f_law07_longTokens [gs b 4 (ml Tk.t us)] emp = some (.sc (.bool (longF us)), emp) := by
 unfold longF
 by_cases h : 100 < us.length
 ·rw [if_pos h]
  (refine callF_light rfl pf_law07_longTokens lf_law07_longTokens (by simp [K_law07_longTokens]) ?_; rw [evF_R, K_law07_longTokens])
  simp (disch := omega) [*]
 ·rw [if_neg h]
  have hh := l_long b us 0 0 (by omega) (by omega) (by omega)
  rw [show ((0 : Nat) : Int) = 0 from rfl] at hh
  generalize ltF us 0 0 = o at *
  cases o <;> simp only [ltX] at hh
  all_goals (refine callF_light rfl pf_law07_longTokens lf_law07_longTokens (by simp [K_law07_longTokens]) ?_; rw [evF_R, K_law07_longTokens])
  all_goals simp (disch := omega) [*]
theorem ltF_some (us : List Tk) (i n : Nat) {m : Nat} (h : ltF us i n = some m) : ∀ j, i ≤ j → j < us.length → (gx us j).tx.length ≤ 1000 ∧ (gx us j).bits.length ≤ 300 := by
 fun_induction ltF us i n
 case case1 => cases h
 case case2 i n h1 h2 ih =>
  intro j h3 h4
  by_cases e : j = i
  ·subst e; omega
  ·exact ih h j (by omega) h4
 case case3 i n h1 => intro j h3 h4; omega
theorem long_no {us : List Tk} (h : longF us = false) : us.length ≤ 100 ∧ ∀ j, j < us.length → (gx us j).tx.length ≤ 1000 ∧ (gx us j).bits.length ≤ 300 := by
 unfold longF at h
 split at h
 ·cases h
 ·rename_i h1
  split at h
  ·cases h
  ·rename_i n hn
   exact ⟨by omega, fun j hj => ltF_some us 0 0 hn j (by omega) hj⟩
def errF (us : List Tk) (i : Nat) : Option Nat := if i < us.length then (if (fmtF (gx us i)).2 = 0 then errF us (i + 1) else some (fmtF (gx us i)).2) else none
 termination_by us.length - i
def flF (us : List Tk) (xs : List (List UInt8)) (i : Nat) : List (List UInt8) := if i < us.length then flF us (xs.set i (fmtF (gx us i)).1) (i + 1) else xs
 termination_by us.length - i
def joX (us : List Tk) (ys : List (List UInt8)) : Option Nat → Ex × St
 | none => (.exit 0, ⟨[(4, .own (1, 12) 0 0 us.length)], upd emp (1, 12) (.arr false 0 1 9 (ml strT ys))⟩)
 | some e => (.ret, ⟨[(2, .sc (str [])), (3, .sc (.int .i64 (e : Int)))], emp⟩)
theorem l_Join (us : List Tk) (xs : List (List UInt8)) (i : Nat) (hl : us.length ≤ 3000) (hx : xs.length = us.length) (hb : ∀ j, j < us.length → (gx us j).tx.length ≤ 3000 ∧ (gx us j).bits.length ≤ 300) :
  Lp E 1 39 K_token_Join_h0 K_token_Join_b0.c ⟨[(4, .own (1, 12) 0 0 us.length), (13, gs true 4 (ml Tk.t us)), (14, .sc (.int .i64 us.length)), (15, .sc (.int .i64 (i : Int)))], upd emp (1, 12) (.arr false 0 1 9 (ml strT xs))⟩ =
   some (joX us (flF us xs i) (errF us i)) := by
 fun_induction flF us xs i
 case case1 xs i h1 ih =>
  have ih := ih (by simpa using hx)
  have hF := c_Format (gx us i) (by have := hb i h1; omega) (by have := hb i h1; omega)
  have h2 : i < xs.length := by omega
  have h3 : us.length ≤ xs.length := by omega
  have h4 : i < 10000 := by omega
  have hs : ∀ t : List UInt8, (ml strT xs).set i (.sc (str t)) = ml strT (xs.set i t) := fun t => ml_set strT xs i t
  rw [errF, if_pos h1]
  by_cases he : (fmtF (gx us i)).2 = 0
  ·rw [if_pos he]
   unfold tupS at hF
   rw [he] at hF
   generalize (fmtF (gx us i)).1 = t at *
   generalize joX us (flF us (xs.set i t) (i + 1)) (errF us (i + 1)) = w at *
   simp only [Tk.t, Tk.cs] at hF
   clear hb hx hl he
   (rw [Lp_eq]; rw (occs := .pos [1]) [K_token_Join_b0])
   simp (disch := omega) [Tk.t, Tk.cs, *]
  ·rw [if_neg he]
   unfold tupS at hF
   have he : decide ((fmtF (gx us i)).2 = 0) = false := by simpa using he
   simp only [joX]
   generalize fmtF (gx us i) = p at *
   simp only [Tk.t, Tk.cs] at hF
   clear hb hx hl ih
   (rw [Lp_eq]; rw (occs := .pos [1]) [K_token_Join_b0])
   simp (disch := omega) [Tk.t, Tk.cs, *]
 case case2 xs i h1 =>
  rw [errF, if_neg h1]
  simp only [joX]
  clear hb hx hl
  (rw [Lp_eq]; rw (occs := .pos [1]) [K_token_Join_b0])
  simp (disch := omega) [*]
theorem flF_eq (us : List Tk) (xs : List (List UInt8)) (i : Nat) (hx : xs.length = us.length) (hi : i ≤ us.length) (h : xs.take i = (us.take i).map fun t => (fmtF t).1) : flF us xs i = us.map fun t => (fmtF t).1 := by
 fun_induction flF us xs i
 case case1 xs i h1 ih =>
  apply ih (by simpa using hx) h1
  rw [List.take_succ_eq_append_getElem (by simp; omega), List.take_set_of_le (Nat.le_refl _), h, List.getElem_set_self, List.take_succ_eq_append_getElem h1, List.map_append]
  unfold gx
  rw [List.getD_eq_getElem?_getD, List.getElem?_eq_getElem h1]
  rfl
 case case2 xs i h1 =>
  have : i = us.length := by omega
  subst this
  rw [List.take_length, List.take_of_length_le (by omega)] at h
  exact h
end Go.TM.R7
namespace Go.TM.R7
open Go Go.TM Go.Proofs Go.TM.A7
def txts (us : List Tk) : List (List UInt8) := us.map fun t => (fmtF t).1
def jn : List (List UInt8) → List UInt8
 | [] => []
 | [x] => x
 | x :: y :: r => x ++ 32 :: jn (y :: r)
theorem jn_join : ∀ xs : List (List UInt8), Lib.join xs [32] = jn xs
 | [] => rfl
 | [x] => by simp [Lib.join, jn, List.intercalate]
 | x :: y :: r => by
  have ih := jn_join (y :: r)
  simp only [Lib.join, List.intercalate] at ih ⊢
  rw [jn, ← ih]
  simp [List.intersperse]
theorem jn_len (m : Nat) : ∀ xs : List (List UInt8), (∀ x ∈ xs, x.length ≤ m) → (jn xs).length ≤ xs.length * (m + 1)
 | [], _ => by simp [jn]
 | [x], h => by have := h x (by simp); simp [jn]; omega
 | x :: y :: r, h => by
  have ih := jn_len m (y :: r) (fun z hz => h z (List.mem_cons_of_mem _ hz))
  have := h x (by simp)
  rw [jn]
  simp only [List.length_append, List.length_cons] at ih ⊢
  rw [Nat.add_mul (r.length + 1) 1]
  omega
theorem fmtF_len (t : Tk) (h : t.tx.length ≤ 3000) : (fmtF t).1.length ≤ 4294967296 := by
 have hok : ∀ c, (okS t c).1.length ≤ 4294967296 := by intro c; unfold okS; split <;> simp; omega
 unfold fmtF
 split
 ·exact hok _
 split
 ·exact hok _
 split
 ·exact hok _
 split
 ·unfold numF
  split
  ·rename_i hc
   have h1 := (chk_ok hc).2.1
   split
   ·rename_i n hn
    have := decV_lt hn
    have := dec_len n
    show (Lib.decDigits n).length ≤ _
    omega
   ·have := dec_len t.bits.length
    have h2 := dgB_len t.bits
    show (fmtB _ _).length ≤ _
    unfold fmtB
    simp only [List.length_append, List.length_cons]
    split <;> simp <;> omega
  ·simp
 split
 ·cases hq : qF t.tx 0 [34] with
  | none => simp [quS]
  | some b =>
   have := (qF_pos _ _ _ _ hq).2
   simp only [quS, List.length_append, List.length_cons, List.length_nil] at this ⊢
   omega
 split
 ·exact hok _
 ·simp
theorem txts_len (us : List Tk) (h : ∀ j, j < us.length → (gx us j).tx.length ≤ 3000 ∧ (gx us j).bits.length ≤ 300) : ∀ x ∈ txts us, x.length ≤ 4294967296 := by
 intro x hx
 unfold txts at hx
 rw [List.mem_map] at hx
 obtain ⟨t, ht, rfl⟩ := hx
 obtain ⟨j, hj, rfl⟩ := List.mem_iff_getElem.1 ht
 have := h j hj
 unfold gx at this
 rw [List.getD_eq_getElem?_getD, List.getElem?_eq_getElem hj] at this
 exact fmtF_len _ this.1
theorem strs_ml : ∀ xs : List (List UInt8), strsT (ml strT xs) = some (xs.map fun x => ⟨x.toArray⟩)
 | [] => rfl
 | x :: xs => by
  show (strsT (ml strT xs)).map _ = _
  rw [strs_ml xs]; rfl
theorem c_SJoin (xs : List (List UInt8)) (h1 : xs.length ≤ 3000) (h2 : (jn xs).length ≤ 140737488355328) : callF E 0 f_strings_Join [.lst 1 (ml strT xs), .sc (str [32])] emp = some (.sc (str (jn xs)), emp) := by
 have e : (xs.map fun x => (⟨x.toArray⟩ : ByteArray)).map (·.data.toList) = xs := by rw [List.map_map]; exact List.map_id' xs
 refine callF_X (g := XJN) rfl ?_ rfl rfl ?_
 ·show (match strsT (ml strT xs) with | some ys => _ | none => none) = _
  rw [strs_ml]
  show (if _ then _ else _) = _
  rw [e, show ((⟨#[32]⟩ : ByteArray).data.toList) = [32] from rfl, jn_join, if_pos ⟨rfl, by simp; omega, h2⟩]
  rfl
 ·simp [closedL, closed]
attribute [-simp] Int.natCast_add Int.natCast_mul List.drop_one
def joinF (us : List Tk) : List UInt8 × Nat := match errF us 0 with
 | some e => ([], e)
 | none => if 65536 < (jn (txts us)).length then ([], 5) else (jn (txts us), 0)
theorem jn_bnd {us : List Tk} (hl : us.length ≤ 3000) (hb : ∀ j, j < us.length → (gx us j).tx.length ≤ 3000 ∧ (gx us j).bits.length ≤ 300) : (jn (txts us)).length ≤ 12884901891000 := by
 have := jn_len _ _ (txts_len us hb)
 have h2 : (txts us).length ≤ 3000 := by unfold txts; simpa using hl
 have h3 : (txts us).length * (4294967296 + 1) ≤ 3000 * (4294967296 + 1) := Nat.mul_le_mul_right _ h2
 omega
theorem rep_strT (n : Nat) : List.replicate n (T.sc (str [])) = ml strT (List.replicate n []) := by
 simp [ml, strT]
theorem c_Join (us : List Tk) (hl : us.length ≤ 3000) (hb : ∀ j, j < us.length → (gx us j).tx.length ≤ 3000 ∧ (gx us j).bits.length ≤ 300) : callF E 0 f_token_Join [gs true 4 (ml Tk.t us)] emp = some (tupS (joinF us), emp) := by
 have h := l_Join us (List.replicate us.length []) 0 hl (by simp) hb
 rw [flF_eq us _ 0 (by simp) (by omega) (by simp), show ((0 : Nat) : Int) = 0 from rfl] at h
 have hj := jn_bnd hl hb
 have hS := c_SJoin (txts us) (by unfold txts; simpa using hl) (by omega)
 have hq : (txts us).length = us.length := by unfold txts; simp
 unfold joinF
 change Lp E 1 39 K_token_Join_h0 K_token_Join_b0.c _ = some (joX us (txts us) (errF us 0)) at h
 generalize txts us = ts at *
 have hr := rep_strT us.length
 have ht : List.take us.length (ml strT ts) = ml strT ts := List.take_of_length_le (by simp; omega)
 have hu : us.length < 10000 := by omega
 have hts : ts.length ≤ 3000 := by omega
 generalize errF us 0 = o at *
 cases o with
 | some e =>
  simp only [joX, tupS] at h ⊢
  clear hS ht hb hl hq
  (refine callF_light rfl pf_token_Join lf_token_Join (by simp [K_token_Join]) ?_; rw [evF_R, K_token_Join])
  simp (disch := omega) [*]
 | none =>
  simp only [joX] at h ⊢
  clear hb hl
  by_cases hx : 65536 < (jn ts).length
  ·rw [if_pos hx]
   simp only [tupS]
   (refine callF_light rfl pf_token_Join lf_token_Join (by simp [K_token_Join]) ?_; rw [evF_R, K_token_Join])
   simp (disch := omega) [*]
  ·rw [if_neg hx]
   simp only [tupS]
   (refine callF_light rfl pf_token_Join lf_token_Join (by simp [K_token_Join]) ?_; rw [evF_R, K_token_Join])
   simp (disch := omega) [*]
theorem wk {us : List Tk} (h : ∀ j, j < us.length → (gx us j).tx.length ≤ 1000 ∧ (gx us j).bits.length ≤ 300) : ∀ j, j < us.length → (gx us j).tx.length ≤ 3000 ∧ (gx us j).bits.length ≤ 300 := fun j hj => by have := h j hj; omega
end Go.TM.R7
