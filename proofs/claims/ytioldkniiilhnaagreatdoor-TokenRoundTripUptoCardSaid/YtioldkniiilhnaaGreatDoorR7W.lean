/- Token: comparison and copy of rows of any length. -/
import Derived.Test.YtioldkniiilhnaaGreatDoorR7Q
set_option linter.all false
namespace Go.TM.R7
open Go Go.TM Go.Proofs Go.TM.A7
attribute [-simp] Int.natCast_add Int.natCast_mul List.drop_one
theorem gx_take (us : List Tk) (i : Nat) (hi : i < us.length) : us.take i ++ [gx us i] = us.take (i + 1) := by
 unfold gx
 rw [List.getD_eq_getElem?_getD, List.getElem?_eq_getElem hi, List.take_succ_eq_append_getElem hi]
 rfl
theorem l_same7 (us : List Tk) (hl : us.length ≤ 9999) (hb : ∀ i, (gx us i).bits.length < 2 ^ 62) : ∀ k i, i + k = us.length →
  Lp E 1 55 K_ref07_Same_h0 K_ref07_Same_b0.c ⟨[(0, .lst 4 (ml Tk.t us)), (1, .lst 4 (ml Tk.t us)), (5, .sc (.int .i64 (i : Int)))], emp⟩ = some (.exit 0, ⟨[], emp⟩) := by
 intro k
 induction k with
 | zero =>
  intro i hi
  have h1 : ¬ i < us.length := by omega
  clear hi hb
  (rw [Lp_eq]; rw (occs := .pos [1]) [K_ref07_Same_b0])
  simp (disch := omega) [*]
 | succ k ih =>
  intro i hi
  have h1 : i < us.length := by omega
  have ih := ih (i + 1) (by omega)
  have hb := hb i
  have h2 := c_same4 (gx us i).bn (gx us i).sg (gx us i).bits hb
  clear hi hb
  generalize hX : Lp E 1 55 K_ref07_Same_h0 K_ref07_Same_b0.c ⟨[(0, .lst 4 (ml Tk.t us)), (1, .lst 4 (ml Tk.t us)), (5, .sc (.int .i64 ((i + 1 : Nat) : Int)))], emp⟩ = X at ih
  (rw [Lp_eq]; rw (occs := .pos [1]) [K_ref07_Same_b0])
  simp (disch := omega) [Tk.t, Tk.cs, *]
theorem c_sameL (us : List Tk) (hl : us.length ≤ 9999) (hb : ∀ i, (gx us i).bits.length < 2 ^ 62) : callF E 0 f_ref07_Same [.lst 4 (ml Tk.t us), .lst 4 (ml Tk.t us)] emp = some (.sc (.bool true), emp) := by
 have h := l_same7 us hl hb us.length 0 (by omega)
 clear hb
 try simp only [lenN, Int.cast_ofNat_Int] at *
 (refine callF_light rfl pf_ref07_Same lf_ref07_Same (by simp [K_ref07_Same]) ?_; rw [evF_R, K_ref07_Same])
 simp (disch := omega) [*]
theorem l_asRef (us : List Tk) (hl : us.length ≤ 9999) : ∀ k i, i + k = us.length → 0 < i →
  Lp E 1 19 K_law07_asRef_h0 K_law07_asRef_b0.c ⟨[(0, .lst 4 (ml Tk.t us)), (3, .own (1, 17) 0 0 i), (4, .sc (.int .i64 (i : Int)))], upd emp (1, 17) (.arr false 0 4 28 (ml Tk.t (us.take i)))⟩ =
   some (.exit 0, ⟨[(3, .own (1, 17) 0 0 us.length)], upd emp (1, 17) (.arr false 0 4 28 (ml Tk.t us))⟩) := by
 intro k
 induction k with
 | zero =>
  intro i hi hp
  obtain rfl : i = us.length := by omega
  rw [List.take_length]
  clear hi
  (rw [Lp_eq]; rw (occs := .pos [1]) [K_law07_asRef_b0])
  simp (disch := omega) [*]
 | succ k ih =>
  intro i hi hp
  have h1 : i < us.length := by omega
  have ih := ih (i + 1) (by omega) (by omega)
  have ht := gx_take us i h1
  have hl2 : (us.take i).length ≤ 999999999 := by rw [List.length_take]; omega
  have hl3 : (us.take i).length = i := by rw [List.length_take]; omega
  rw [← ht] at ih
  clear hi ht
  generalize us.take i = vs at *
  have m1 := tk_app vs (gx us i)
  subst hl3
  generalize hX : Lp E 1 19 K_law07_asRef_h0 K_law07_asRef_b0.c ⟨[(0, .lst 4 (ml Tk.t us)), (3, .own (1, 17) 0 0 (vs.length + 1)), (4, .sc (.int .i64 ((vs.length + 1 : Nat) : Int)))], upd emp (1, 17) (.arr false 0 4 28 (ml Tk.t (vs ++ [gx us vs.length])))⟩ = X at ih
  (rw [Lp_eq]; rw (occs := .pos [1]) [K_law07_asRef_b0])
  simp (disch := omega) [Tk.t, Tk.cs, *]
end Go.TM.R7
namespace Go.TM.R7
open Go Go.TM Go.Proofs Go.TM.A7
attribute [-simp] Int.natCast_add Int.natCast_mul List.drop_one
theorem c_asRefN : callF E 0 f_law07_asRef [.sc (.slice none 0 0)] emp = some (.sc (.slice none 0 0), emp) := by
 (refine callF_light rfl pf_law07_asRef lf_law07_asRef (by simp [K_law07_asRef]) ?_; rw [evF_R, K_law07_asRef])
 simp (disch := omega) [*]
 (rw [Lp_eq]; rw (occs := .pos [1]) [K_law07_asRef_b0])
 simp (disch := omega) [*]
theorem c_sameN : callF E 0 f_ref07_Same [.sc (.slice none 0 0), .sc (.slice none 0 0)] emp = some (.sc (.bool true), emp) := by
 (refine callF_light rfl pf_ref07_Same lf_ref07_Same (by simp [K_ref07_Same]) ?_; rw [evF_R, K_ref07_Same])
 simp (disch := omega) [*]
 (rw [Lp_eq]; rw (occs := .pos [1]) [K_ref07_Same_b0])
 simp (disch := omega) [*]
theorem c_asRefL (us : List Tk) (hl : us.length ≤ 9999) (h1 : 0 < us.length) : callF E 0 f_law07_asRef [.lst 4 (ml Tk.t us)] emp = some (.lst 4 (ml Tk.t us), emp) := by
 have h := l_asRef us hl (us.length - 1) 1 (by omega) (by omega)
 have ht := gx_take us 0 h1
 rw [List.take_zero, List.nil_append] at ht
 rw [← ht] at h
 unfold ml at h
 simp only [List.map_cons, List.map_nil, Tk.t, Tk.cs] at h
 change Lp E 1 19 K_law07_asRef_h0 K_law07_asRef_b0.c ⟨[(0, .lst 4 (ml Tk.t us)), _, _], _⟩ = some (_, ⟨_, upd emp (1, 17) (.arr false 0 4 28 (ml Tk.t us))⟩) at h
 clear ht
 try simp only [lenN, Int.cast_ofNat_Int] at *
 (refine callF_light rfl pf_law07_asRef lf_law07_asRef (by simp [K_law07_asRef]) ?_; rw [evF_R, K_law07_asRef])
 simp (disch := omega) [*]
 generalize hX : Lp E 1 19 K_law07_asRef_h0 K_law07_asRef_b0.c ⟨[(0, .lst 4 (ml Tk.t us)), (3, .own (1, 17) 0 0 1), (4, .sc (.int .i64 1))], _⟩ = X at h
 (rw [Lp_eq]; rw (occs := .pos [1]) [K_law07_asRef_b0])
 simp (disch := omega) [Tk.t, Tk.cs, *]
end Go.TM.R7
namespace Go.TM.R7
open Go Go.TM Go.Proofs Go.TM.A7
@[simp] theorem upd_setRo (S : Store) (l : Loc) (o : Obj) : upd (setRo S [l]) l o = upd S l o := by
 funext m
 unfold upd setRo
 by_cases h : m = l
 ·simp [h]
 ·simp only [if_neg h]
  split
  ·next e => rw [e]; simp [h]
  ·rfl
attribute [-simp] Int.natCast_add Int.natCast_mul List.drop_one
theorem l_AllC (s : List UInt8) (hs : s.length ≤ 65536) : ∀ (us : List Tk) (a : Nat) (ts : List Tk), chain s a us → a ≤ s.length → ts.length ≤ a → 0 < ts.length →
  ts.length + us.length ≤ s.length ∧ Lp E 1 28 K_token_All_h0 K_token_All_b0.c (stL s a ts) = some (okK (ts ++ us)) := by
 intro us
 induction us with
 | nil =>
  intro a ts hc ha hl h1
  exact ⟨by simp; omega, by rw [List.append_nil]; exact l_All8 s a ts ha hs h1 hc⟩
 | cons u us ih =>
  intro a ts hc ha hl h1
  obtain ⟨c1, c2, c3⟩ := hc
  have b := nx_bnd s a ha c1
  rw [l_All0 s a ts ha hs (by omega) h1 c1, c2]
  have := ih (next s a).n (ts ++ [u]) c3 b.2 (by simp; omega) (by simp)
  rw [List.append_assoc] at this
  exact ⟨by have := this.1; simp at this ⊢; omega, this.2⟩
theorem c_AllC (s : List UInt8) (hs : s.length ≤ 65536) (us : List Tk) (hc : chain s 0 us) : us.length ≤ s.length ∧ callF E 0 f_token_All [.sc (str s)] emp = some (.tup [alT us, .sc (.int .i64 0)], alS us) := by
 have h : us.length ≤ s.length ∧ Lp E 1 28 K_token_All_h0 K_token_All_b0.c (stF s) = some (okK us) := by
  cases us with
  | nil => exact ⟨by simp, l_AllF8 s hs hc⟩
  | cons u us =>
   obtain ⟨c1, c2, c3⟩ := hc
   have b := nx_bnd s 0 (Nat.zero_le _) c1
   rw [l_AllF0 s hs c1, c2]
   have := l_AllC s hs us (next s 0).n [u] c3 b.2 (by simp; omega) (by simp)
   refine ⟨by have := this.1; simp at this ⊢; omega, ?_⟩
   rw [this.2]
   rfl
 refine ⟨h.1, ?_⟩
 have c3 := h.2
 clear h hc
 cases us with
 | nil =>
  simp only [stF, okK] at c3
  simp only [alT, alS]
  try simp only [lenN, Int.cast_ofNat_Int] at *
  (refine callF_light rfl pf_token_All lf_token_All (by simp [K_token_All]) ?_; rw [evF_R, K_token_All])
  simp (disch := omega) [*]
 | cons u us =>
  simp only [stF, okK] at c3
  simp only [alT, alS]
  generalize u :: us = ws at *
  try simp only [lenN, Int.cast_ofNat_Int] at *
  (refine callF_light rfl pf_token_All lf_token_All (by simp [K_token_All]) ?_; rw [evF_R, K_token_All])
  simp (disch := omega) [*]
end Go.TM.R7
