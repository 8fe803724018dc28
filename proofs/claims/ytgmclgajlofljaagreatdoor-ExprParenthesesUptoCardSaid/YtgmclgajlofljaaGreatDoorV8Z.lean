/- Expressions: how long a text is. -/
import Derived.Test.YtgmclgajlofljaaGreatDoorR8V
set_option linter.all false
namespace Go.TM.R8
open Go Go.TM Go.Proofs Go.TM.A8
theorem wideL_mem : ∀ (xs : List Ex'), wideL xs = false → ∀ x ∈ xs, wide x = false
 | [], _, x, h => by cases h
 | y :: xs, hh, x, h => by
  rw [wideL, Bool.or_eq_false_iff] at hh
  rcases List.mem_cons.1 h with rfl | h
  ·exact hh.1
  ·exact wideL_mem xs hh.2 x h
def sumT : List (List (List UInt8)) → Nat
 | [] => 0
 | a :: qs => a.flatten.length + sumT qs
theorem arnd_len : ∀ (a : List (List (List UInt8))) (ts : List (List UInt8)), (arnd a ts).flatten.length ≤ ts.flatten.length + sumT a
 | a, [] => by cases a <;> simp [arnd]
 | [], t :: ts => by have := arnd_len [] ts; simp [arnd] at this ⊢; omega
 | a :: qs, t :: ts => by have := arnd_len qs ts; simp [arnd, sumT] at this ⊢; omega
theorem lstP_len : ∀ (a : List (List (List UInt8))) (b : Bool), (lstP a b).flatten.length ≤ 2 * a.length + sumT a
 | [], b => by cases b <;> simp [lstP]
 | a :: qs, true => by have := lstP_len qs false; simp [lstP, sumT] at this ⊢; omega
 | a :: qs, false => by have := lstP_len qs false; simp [lstP, sumT] at this ⊢; omega
theorem sel_len : ∀ a : List (List (List UInt8)), (a.map fun p => [91] :: (p ++ [[93]])).flatten.flatten.length = 2 * a.length + sumT a
 | [] => rfl
 | a :: qs => by have := sel_len qs; simp [sumT] at this ⊢; omega
theorem sumT_take (a : List (List (List UInt8))) (k : Nat) : sumT (a.take k) + sumT (a.drop k) = sumT a := by
 induction a generalizing k with
 | nil => simp [sumT]
 | cons x a ih => cases k with
  | zero => simp [sumT]
  | succ k => have := ih k; simp only [List.take_succ_cons, List.drop_succ_cons, sumT]; omega
theorem sym_len : (∀ i, (unSym.getD i []).length ≤ 2) ∧ ∀ i, (biSym.getD i []).length ≤ 3 := by
 constructor
 ·intro i
  rw [List.getD_eq_getElem?_getD]
  by_cases h : i < unSym.length
  ·rw [List.getElem?_eq_getElem h]
   have : ∀ x ∈ unSym, x.length ≤ 2 := by decide
   exact this _ (List.getElem_mem h)
  ·rw [List.getElem?_eq_none (by omega)]; simp
 ·intro i
  rw [List.getD_eq_getElem?_getD]
  by_cases h : i < biSym.length
  ·rw [List.getElem?_eq_getElem h]
   have : ∀ x ∈ biSym, x.length ≤ 3 := by decide
   exact this _ (List.getElem_mem h)
  ·rw [List.getElem?_eq_none (by omega)]; simp
theorem node_len (op : Nat) (name : List UInt8) (bits : List Nat) (vs : Bool) (a : List (List (List UInt8))) (h : op = 1 → chk bits = 0) :
  (node op name bits vs a).flatten.length ≤ name.length + 420 + 2 * a.length + sumT a := by
 have A := arnd_len a
 have L := lstP_len a true
 unfold node
 by_cases hc0 : op = 1
 ·rw [if_pos hc0]
  have := (numF_pos (sg := vs) (h hc0)).2; simp only [List.flatten_cons, List.flatten_nil, List.flatten_append, List.length_append, List.length_cons, List.length_nil, List.append_nil]; omega
 rw [if_neg hc0]
 by_cases hc1 : op = 2
 ·rw [if_pos hc1]
  simp only [List.flatten_cons, List.flatten_nil, List.flatten_append, List.length_append, List.length_cons, List.length_nil, List.append_nil]; omega
 rw [if_neg hc1]
 by_cases hc2 : op = 3
 ·rw [if_pos hc2]
  have := sel_len a; simp only [List.flatten_cons, List.length_append]; omega
 rw [if_neg hc2]
 by_cases hc3 : op = 4
 ·rw [if_pos hc3]
  have := A [name ++ [91], [58], [93]]; simp only [List.flatten_cons, List.flatten_nil, List.flatten_append, List.length_append, List.length_cons, List.length_nil, List.append_nil] at this ⊢; omega
 rw [if_neg hc3]
 by_cases hc4 : op = 5
 ·rw [if_pos hc4]
  have := A [name ++ [91], [43, 58], [93]]; simp only [List.flatten_cons, List.flatten_nil, List.flatten_append, List.length_append, List.length_cons, List.length_nil, List.append_nil] at this ⊢; omega
 rw [if_neg hc4]
 by_cases hc5 : op = 6
 ·rw [if_pos hc5]
  simp only [List.flatten_cons, List.flatten_nil, List.flatten_append, List.length_append, List.length_cons, List.length_nil, List.append_nil] at L ⊢; omega
 rw [if_neg hc5]
 by_cases hc6 : op = 7
 ·rw [if_pos hc6]
  have h1 := arnd_len (a.take 1) [[123], [123]]
  have h2 := lstP_len (a.drop 1) true
  have h3 := sumT_take a 1
  have h4 : (a.drop 1).length ≤ a.length := by simp
  simp only [List.flatten_cons, List.flatten_nil, List.flatten_append, List.length_append, List.length_cons, List.length_nil, List.append_nil] at h1 h2 h4 ⊢; omega
 rw [if_neg hc6]
 by_cases hc7 : op = 8
 ·rw [if_pos hc7]
  simp only [List.flatten_cons, List.flatten_nil, List.flatten_append, List.length_append, List.length_cons, List.length_nil, List.append_nil] at L ⊢; omega
 rw [if_neg hc7]
 by_cases hc8 : op = 9
 ·rw [if_pos hc8]
  split
  ·simp only [List.flatten_cons, List.flatten_nil, List.flatten_append, List.length_append, List.length_cons, List.length_nil, List.append_nil]; omega
  ·have := A [[40], [41]]; simp only [List.flatten_cons, List.flatten_nil, List.flatten_append, List.length_append, List.length_cons, List.length_nil, List.append_nil] at this ⊢; omega
 rw [if_neg hc8]
 by_cases hc9 : op = 10
 ·rw [if_pos hc9]
  have := A [[40], [32, 63, 32], [32, 58, 32], [41]]; simp only [List.flatten_cons, List.flatten_nil, List.flatten_append, List.length_append, List.length_cons, List.length_nil, List.append_nil] at this ⊢; omega
 rw [if_neg hc9]
 by_cases hc10 : op < 21
 ·rw [if_pos hc10]
  have := A [[40] ++ unSym.getD (op - 11) [], [41]]; have := sym_len.1 (op - 11); simp only [List.flatten_cons, List.flatten_nil, List.flatten_append, List.length_append, List.length_cons, List.length_nil, List.append_nil] at *; omega
 rw [if_neg hc10]
 have := A [[40], [32] ++ biSym.getD (op - 21) [] ++ [32], [41]]; have := sym_len.2 (op - 21); simp only [List.flatten_cons, List.flatten_nil, List.flatten_append, List.length_append, List.length_cons, List.length_nil, List.append_nil] at *; omega
theorem txt_len : ∀ x : Ex', wide x = false → chkN x = 0 → (txt x).length + 2 ≤ 1000 * (size x).1 := by
 refine Ex'.ind3 fun x ih hw hk => ?_
 have ok := ok_of hk
 have hk2 : chkL x.args = 0 := by
  rw [chkN_eq] at hk
  split at hk
  ·exact hk
  ·rename_i h0; exact absurd hk h0
 have hw2 : x.name.length ≤ 200 ∧ wideL x.args = false := by
  have := wide_eq x
  rw [hw] at this
  have := this.symm
  simp only [Bool.or_eq_false_iff, decide_eq_false_iff_not] at this
  obtain ⟨⟨h1, h2⟩, h3⟩ := this
  rw [wdF_eq, List.drop_zero] at h3
  exact ⟨by omega, h3⟩
 have hs : ∀ xs : List Ex', (∀ y ∈ xs, (txt y).length + 2 ≤ 1000 * (size y).1) → sumT (xs.map pc) + 2 * xs.length ≤ 1000 * (sizeL xs).1 := by
  intro xs
  induction xs with
  | nil => intro _; simp [sumT]
  | cons y xs h =>
   intro hh
   have h1 := h fun z hz => hh z (List.mem_cons_of_mem _ hz)
   have h2 := hh y (by simp)
   simp only [List.map_cons, sumT, List.length_cons, sizeL]
   unfold txt at h2
   omega
 have h1 := hs x.args fun y hy => ih y hy (wideL_mem _ hw2.2 y hy) (chkL_all _ hk2 y hy)
 have h2 := node_len x.op x.name x.bits x.vs (x.args.map pc) ok.li
 unfold txt
 rw [pc_eq, size_eq]
 simp only [List.length_map] at h2 ⊢
 omega
end Go.TM.R8
