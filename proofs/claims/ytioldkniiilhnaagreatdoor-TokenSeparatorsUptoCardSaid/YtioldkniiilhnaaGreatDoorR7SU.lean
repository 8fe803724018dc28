/- Token: the law TokenSeparators. -/
import Derived.Test.YtioldkniiilhnaaGreatDoorR7SQ
import Derived.Test.YtioldkniiilhnaaGreatDoorR7FP
import Derived.Test.YtioldkniiilhnaaGreatDoorR7W
set_option linter.all false
namespace Go.TM.R7
open Go Go.TM Go.Proofs Go.TM.A7
attribute [-simp] Int.natCast_add Int.natCast_mul List.drop_one
theorem txSum_take : ∀ (us : List Tk) (i : Nat), txSum (us.take i) ≤ txSum us
 | [], i => by simp
 | t :: us, 0 => by simp [txSum]
 | t :: us, i + 1 => by
  have := txSum_take us i
  simp only [List.take_succ_cons, txSum]
  omega
theorem l_sp (b : Bool) (us : List Tk) (xs : List T) (sp t : List UInt8) (hl : us.length ≤ 100) (hb : ∀ j, j < us.length → (gx us j).tx.length ≤ 1000 ∧ (gx us j).bits.length ≤ 300) (he : ∀ j, j < us.length → (fmtF (gx us j)).2 = 0) (hs : sp.length ≤ 9)
  (hS : ∀ i, (sjn sp (txts (us.take i))).length ≤ 100000) : ∀ k i, i + k = us.length →
  Lp E 1 86 K_law07_TokenSeparators_h0 K_law07_TokenSeparators_b0.c ⟨[(0, gs b 4 (ml Tk.t us)), (6, .sc (str sp)), (7, .sc (str t)), (9, .sc (str (sp ++ sjn sp (txts (us.take i))))), (10, .sc (.int .i64 (i : Int)))], upd emp (1, 24) (.arr false 0 1 9 xs)⟩ =
   some (.exit 0, ⟨[(7, .sc (str t)), (9, .sc (str (sp ++ sjn sp (txts us))))], upd emp (1, 24) (.arr false 0 1 9 xs)⟩) := by
 intro k
 induction k with
 | zero =>
  intro i hi
  obtain rfl : i = us.length := by omega
  rw [List.take_length]
  generalize sp ++ sjn sp (txts us) = s at *
  clear hi hb he hS
  (rw [Lp_eq]; rw (occs := .pos [1]) [K_law07_TokenSeparators_b0])
  simp (disch := omega) [*]
 | succ k ih =>
  intro i hi
  have h1 : i < us.length := by omega
  have ih := ih (i + 1) (by omega)
  have hF := c_Format (gx us i) (by have := hb i h1; omega) (by have := hb i h1; omega)
  have hx := fmtF_len (gx us i) (hb i h1).1
  have h4 : i < 1000 := by omega
  have hq : (sp ++ sjn sp (txts (us.take i))).length ≤ 200000 := by have := hS i; simp; omega
  rw [txts_take us i h1, sjn_snoc, ← List.append_assoc] at ih
  unfold tupS at hF
  rw [he i h1] at hF
  generalize (fmtF (gx us i)).1 = x at *
  generalize sp ++ sjn sp (txts (us.take i)) = s at *
  generalize sp ++ sjn sp (txts us) = z at *
  have k1 := bin_cat2 s x (by omega)
  have k2 := bin_cat2 (s ++ x) sp (by simp; omega)
  rw [← List.append_assoc] at ih
  simp only [Tk.t, Tk.cs] at hF
  generalize s ++ x ++ sp = s2 at *
  clear hb hl hi he hS hx hq
  (rw [Lp_eq]; rw (occs := .pos [1]) [K_law07_TokenSeparators_b0])
  simp (disch := omega) [Tk.t, Tk.cs, *]
theorem rem5 (n : Nat) (h : n < 2 ^ 63) : binT .rem (.sc (.int .i64 (n : Int))) (.sc (.int .i64 5)) = some (.sc (.int .i64 ((n % 5 : Nat) : Int))) := by
 simp only [binT, binS]
 rw [if_pos ⟨trivial, by decide⟩, Int.tmod_eq_emod_of_nonneg (by omega)]
 rfl
theorem seps_row : bslK [] 1 (some 24) 9 1 (freezeL emp (ml strT seps)) = some (.own (1, 24) 0 0 5, upd emp (1, 24) (.arr false 0 1 9 (ml strT seps))) := rfl
theorem seps_mem (k : Nat) (h : k < 5) : gx seps k ∈ seps := by
 rcases (show k = 0 ∨ k = 1 ∨ k = 2 ∨ k = 3 ∨ k = 4 by omega) with rfl | rfl | rfl | rfl | rfl <;> decide
theorem joinF_0 {us : List Tk} (h : (joinF us).2 = 0) : errF us 0 = none ∧ joinF us = (jn (txts us), 0) ∧ (jn (txts us)).length ≤ 65536 := by
 unfold joinF at h ⊢
 cases hE : errF us 0 with
 | some e =>
  rw [hE] at h
  exact absurd h (errF_ne us 0 hE)
 | none =>
  rw [hE] at h
  simp only [] at h ⊢
  split at h
  ·cases h
  ·next h1 =>
   rw [if_neg h1]
   exact ⟨trivial, rfl, by omega⟩
theorem canon_bits (us : List Tk) (h : ∀ j, j < us.length → (gx us j).tx.length ≤ 1000 ∧ (gx us j).bits.length ≤ 300) : ∀ i, (gx (us.map canon) i).bits.length < 2 ^ 62 := by
 intro i
 by_cases hi : i < us.length
 ·have e : gx (us.map canon) i = canon (gx us i) := by
   unfold gx
   simp [List.getD_eq_getElem?_getD, List.getElem?_eq_getElem hi]
  rw [e]
  have := (h i hi).2
  unfold canon
  split
  ·show (gx us i).bits.length < _; omega
  ·show (0 : Nat) < _; decide
 ·have e : gx (us.map canon) i = default := by
   unfold gx
   rw [List.getD_eq_getElem?_getD, List.getElem?_eq_none (by simpa using hi)]; rfl
  rw [e]
  show (0 : Nat) < _
  decide
set_option maxHeartbeats 1000000 in
theorem c_sp (b : Bool) (us : List Tk) (w : Nat) (hw : w < 256) (hn : us.length < 2 ^ 62) : callF E 0 f_law07_TokenSeparators [gs b 4 (ml Tk.t us), .sc (.int .u8 (w : Int))] emp = some (.sc (.bool true), emp) := by
 have hL := c_long b us hn
 have hA := c_awake
 cases hq : longF us with
 | true =>
  rw [hq] at hL
  clear hq hn
  (refine callF_light rfl pf_law07_TokenSeparators lf_law07_TokenSeparators (by simp [K_law07_TokenSeparators]) ?_; rw [evF_R, K_law07_TokenSeparators])
  simp (disch := omega) [*]
 | false =>
  obtain ⟨hl, hb⟩ := long_no hq
  have hsum := (long_sum hq).2
  rw [hq] at hL
  have hG := c_given b us (by omega)
  have hJ := c_Join us hl hb
  have hr := rem5 w (by omega)
  have hk : w % 5 < 5 := Nat.mod_lt _ (by decide)
  have hseps : [T.sc (str [32, 32]), T.sc (str [10]), T.sc (str [32, 47, 42, 32, 97, 32, 42, 47, 32]), T.sc (str [32, 47, 47, 32, 98, 10]), T.sc (str [9, 47, 42, 42, 47, 32])] = ml strT seps := rfl
  have h5 : seps.length = 5 := rfl
  have hbs := seps_row
  have hwr : IntKind.i64.wrap (w : Int) = (w : Int) := wr_nat w (by omega)
  generalize w % 5 = k at *
  unfold tupS at hJ
  by_cases he : (joinF us).2 = 0
  ·obtain ⟨hE, hj, hj2⟩ := joinF_0 he
   rw [hj] at hJ
   obtain ⟨hp, hs⟩ := seps_ok _ (seps_mem k hk)
   have hall := errF_all hE
   have hnone := errF_none us 0 hE
   have hlp := l_sp b us (ml strT seps) (gx seps k) (jn (txts us)) hl hb (fun j hj => hnone j (Nat.zero_le _) hj) hs (fun i => by
    have h1 := sjn_len (gx seps k) hs (us.take i)
    have h2 := txSum_take us i
    have h3 : (us.take i).length ≤ 100 := by simp; omega
    omega) us.length 0 (by omega)
   rw [List.take_zero, show txts [] = [] from rfl, show sjn (gx seps k) [] = [] from rfl, List.append_nil, show ((0 : Nat) : Int) = 0 from rfl] at hlp
   have c1 := jn_chain us hall
   have c2 := passed_chain hp _ _ (sjn_chain hp us hall)
   have hlen : (gx seps k ++ sjn (gx seps k) (txts us)).length ≤ 65536 := by
    have h1 := sjn_len (gx seps k) hs us
    simp; omega
   obtain ⟨_, g1⟩ := c_AllC _ hj2 _ c1
   obtain ⟨_, g2⟩ := c_AllC _ hlen _ c2
   have hbits := canon_bits us hb
   have hvl : (us.map canon).length ≤ 9999 := by simp; omega
   have hsm := c_sameL (us.map canon) hvl hbits
   have har := c_asRefL (us.map canon) hvl
   have s0 := c_sameN
   have r0 := c_asRefN
   clear hbits hb hall hnone c1 c2 hlen hj hj2 he hE hp hs hq hn hsum
   generalize gx seps k ++ sjn (gx seps k) (txts us) = s at *
   generalize jn (txts us) = t at *
   generalize us.map canon = vs at *
   cases vs with
   | nil =>
    simp only [alT, alS] at g1 g2
    clear hsm har hvl
    (refine callF_light rfl pf_law07_TokenSeparators lf_law07_TokenSeparators (by simp [K_law07_TokenSeparators]) ?_; rw [evF_R, K_law07_TokenSeparators])
    simp (disch := omega) [strT, *]
   | cons v vs =>
    have har := har (by simp)
    simp only [alT, alS] at g1 g2
    have hne : ¬ v :: vs = [] := by simp
    generalize v :: vs = ws at *
    have mr : ws.length ≤ 1000000000 := by omega
    (refine callF_light rfl pf_law07_TokenSeparators lf_law07_TokenSeparators (by simp [K_law07_TokenSeparators]) ?_; rw [evF_R, K_law07_TokenSeparators])
    simp (disch := omega) [strT, *]
  ·have he : decide ((joinF us).2 = 0) = false := by simpa using he
   generalize joinF us = p at *
   clear hb hq hn hsum
   (refine callF_light rfl pf_law07_TokenSeparators lf_law07_TokenSeparators (by simp [K_law07_TokenSeparators]) ?_; rw [evF_R, K_law07_TokenSeparators])
   simp (disch := omega) [strT, *]
end Go.TM.R7
