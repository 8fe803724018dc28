/- What is known of the calls of the law ExprPrecedence. -/
import Derived.Test.YtnjihnjonhmflaaGreatDoorP8A
import Derived.Test.YtnjihnjonhmflaaGreatDoorP8G0
import Derived.Test.YtnjihnjonhmflaaGreatDoorP8G1
import Derived.Test.YtnjihnjonhmflaaGreatDoorP8G2
import Derived.Test.YtnjihnjonhmflaaGreatDoorP8G3
import Derived.Test.YtnjihnjonhmflaaGreatDoorP8G4
import Derived.Test.YtnjihnjonhmflaaGreatDoorP8G5
import Derived.Test.YtnjihnjonhmflaaGreatDoorP8G6
import Derived.Test.YtnjihnjonhmflaaGreatDoorP8G7
import Derived.Test.YtnjihnjonhmflaaGreatDoorP8G8
import Derived.Test.YtnjihnjonhmflaaGreatDoorP8G9
import Derived.Test.YtnjihnjonhmflaaGreatDoorP8G10
import Derived.Test.YtnjihnjonhmflaaGreatDoorP8G11
import Derived.Test.YtnjihnjonhmflaaGreatDoorP8G12
import Derived.Test.YtnjihnjonhmflaaGreatDoorP8G13
import Derived.Test.YtnjihnjonhmflaaGreatDoorP8G14
import Derived.Test.YtnjihnjonhmflaaGreatDoorP8G15
set_option linter.all false
namespace Go.TM.P8
open Go Go.TM Go.Proofs
set_option linter.unusedVariables false
set_option linter.unusedSimpArgs false
set_option maxRecDepth 1000000
theorem gAll : ∀ m, m < 24 → (∀ e ∈ G m 0, TrueM E e) ∧ (∀ e ∈ G m 12, TrueM E e)
 | 0, _ => ⟨g0_0, g0_12⟩
 | 1, _ => ⟨g1_0, g1_12⟩
 | 2, _ => ⟨g2_0, g2_12⟩
 | 3, _ => ⟨g3_0, g3_12⟩
 | 4, _ => ⟨g4_0, g4_12⟩
 | 5, _ => ⟨g5_0, g5_12⟩
 | 6, _ => ⟨g6_0, g6_12⟩
 | 7, _ => ⟨g7_0, g7_12⟩
 | 8, _ => ⟨g8_0, g8_12⟩
 | 9, _ => ⟨g9_0, g9_12⟩
 | 10, _ => ⟨g10_0, g10_12⟩
 | 11, _ => ⟨g11_0, g11_12⟩
 | 12, _ => ⟨g12_0, g12_12⟩
 | 13, _ => ⟨g13_0, g13_12⟩
 | 14, _ => ⟨g14_0, g14_12⟩
 | 15, _ => ⟨g15_0, g15_12⟩
 | 16, _ => ⟨g16_0, g16_12⟩
 | 17, _ => ⟨g17_0, g17_12⟩
 | 18, _ => ⟨g18_0, g18_12⟩
 | 19, _ => ⟨g19_0, g19_12⟩
 | 20, _ => ⟨g20_0, g20_12⟩
 | 21, _ => ⟨g21_0, g21_12⟩
 | 22, _ => ⟨g22_0, g22_12⟩
 | 23, _ => ⟨g23_0, g23_12⟩
 | m + 24, h => absurd h (by omega)
theorem k_pair (m n : Nat) (hm : m < 24) (hn : n < 24) : TrueM E (mP m n) ∧ TrueM E (mI m n) := by
 have key : ∀ a k, n = a + k → k < 12 → (∀ e ∈ G m a, TrueM E e) → TrueM E (mP m n) ∧ TrueM E (mI m n) := by
  intro a k hk h1 h2
  subst hk
  have h3 : ∀ e ∈ [mP m (a + k), mI m (a + k)], e ∈ G m a := fun e he => List.mem_flatMap.2 ⟨k, List.mem_range.2 h1, he⟩
  exact ⟨h2 _ (h3 _ (by simp)), h2 _ (h3 _ (by simp))⟩
 obtain ⟨h1, h2⟩ := gAll m hm
 rcases Nat.lt_or_ge n 12 with h | h
 ·exact key 0 n (by omega) h h1
 ·exact key 12 (n - 12) (by omega) (by omega) h2
/-- The operators' letters. -/
def sg : List (List UInt8) := sgT.map fun p => bytesN p.1 p.2
def txt (m n : Nat) : List UInt8 := ((([97, 32] ++ gx sg m) ++ [32, 98, 32]) ++ gx sg n) ++ [32, 99]
theorem txt_all : ((List.range 24).all fun m => (List.range 24).all fun n => bytesN (tL m n) (tN m n) == txt m n) = true := by decide +kernel
theorem txt_eq (m n : Nat) (hm : m < 24) (hn : n < 24) : bytesN (tL m n) (tN m n) = txt m n := by
 have h := List.all_eq_true.1 (List.all_eq_true.1 txt_all m (List.mem_range.2 hm)) n (List.mem_range.2 hn)
 simpa using h
theorem sgl_all : ((List.range 24).all fun m => decide ((gx sg m).length ≤ 3)) = true := by decide +kernel
theorem sg_len (m : Nat) (hm : m < 24) : (gx sg m).length ≤ 3 := by
 have h := List.all_eq_true.1 sgl_all m (List.mem_range.2 hm)
 simpa using h
theorem sg_24 : sg.length = 24 := rfl
/-! ### as trees -/
def sT (s : List UInt8) : T := .sc (str s)
def nT (k : Nat) : T := .agg [.sc (.int .u8 2), .sc (str [UInt8.ofNat k]), .sc (.slice none 0 0), .sc (.bool false), .sc (.slice none 0 0), .sc (.int .i64 0), .sc (.int .i64 0), .sc (.bool false)]
def oT (o : Nat) (xs : List T) : T := .agg [.sc (.int .u8 (o : Int)), .sc (str []), .sc (.slice none 0 0), .sc (.bool false), .lst 8 xs, .sc (.int .i64 0), .sc (.int .i64 0), .sc (.bool false)]
def wT (m n : Nat) : T := bif Nat.blt (lv m) (lv n) then oT (21 + m) [nT 97, oT (21 + n) [nT 98, nT 99]] else oT (21 + n) [oT (21 + m) [nT 97, nT 98], nT 99]
theorem i0_t : V.t i0 = .sc (.int .i64 0) := by simp only [V.t]; rfl
theorem nT_t (k : Nat) (h : k < 256) : (nm k).t = nT k := by
 unfold nm nT
 simp only [V.t, V.tL, T_bstr, kd_u8, kd_i64, bytesN_s, bytesN_0, Nat.mod_eq_of_lt h]
 rfl
theorem oT_t (o : Nat) (xs : List V) : (oV o xs).t = oT o (V.tL xs) := by
 unfold oV oT
 simp only [V.t, V.tL, T_bstr, kd_u8, kd_i64, bytesN_0]
 rfl
theorem wT_t (m n : Nat) : (wt m n).t = wT m n := by
 unfold wt wT
 have h1 := nT_t 97 (by decide)
 have h2 := nT_t 98 (by decide)
 have h3 := nT_t 99 (by decide)
 cases Nat.blt (lv m) (lv n) <;> simp only [cond_true, cond_false, oT_t, V.tL, h1, h2, h3]
/-! ### calls -/
theorem c_Parse (m n : Nat) (hm : m < 24) (hn : n < 24) : callF E 0 8 [.sc (str (txt m n)), .sc (.int .i64 0)] emp = some (.tup [wT m n, .sc (.int .i64 (tL m n : Nat)), .sc (.int .i64 0)], emp) := by
 have h := (k_pair m n hm hn).1
 unfold TrueM mP at h
 have e : V.t (.s (tL m n) (tN m n)) = .sc (str (txt m n)) := by
  simp only [V.t]
  rw [T_bstr, txt_eq m n hm hn]
 have e2 : V.t (.p 9223372036854775808 (tL m n)) = .sc (.int .i64 (tL m n : Nat)) := by simp only [V.t]; rfl
 have e3 : V.t (.tup [wt m n, .p 9223372036854775808 (tL m n), i0]) = .tup [wT m n, .sc (.int .i64 (tL m n : Nat)), .sc (.int .i64 0)] := by
  rw [← wT_t, ← e2, ← i0_t]; simp only [V.t, V.tL]
 simp only [V.tL, e, i0_t] at h
 rw [e3] at h
 exact h
theorem c_Is (m n : Nat) (hm : m < 24) (hn : n < 24) : callF E 0 11 [wT m n, wT m n] emp = some (.sc (.bool true), emp) := by
 have h := (k_pair m n hm hn).2
 unfold TrueM mI at h
 rw [← wT_t]
 simpa only [V.tL, V.t] using h
theorem c_awake : callF E 0 5 [] emp = some (.sc (.bool true), emp) := by
 have h := tAw _ (List.mem_singleton.2 rfl)
 unfold TrueM at h
 simpa only [V.tL, V.t] using h
theorem c_Level (m : Nat) (hm : m < 24) : callF E 0 10 [.sc (.int .u8 ((21 + m : Nat) : Int))] emp = some (.sc (.int .i64 (lv m : Nat)), emp) := by
 have h := tF0 (mL m) (List.mem_append_right _ (List.mem_map.2 ⟨m, List.mem_range.2 hm, rfl⟩))
 unfold TrueM mL at h
 have e2 : V.t (.p 256 (21 + m)) = .sc (.int .u8 ((21 + m : Nat) : Int)) := by simp only [V.t]; rfl
 have e3 : V.t (.p 9223372036854775808 (lv m)) = .sc (.int .i64 (lv m : Nat)) := by simp only [V.t]; rfl
 simpa only [V.tL, e2, e3] using h
theorem c_ref (k : Nat) (hk : k = 97 ∨ k = 98 ∨ k = 99) : callF E 0 7 [.sc (str [UInt8.ofNat k])] emp = some (nT k, emp) := by
 have hl : k < 256 := by omega
 have h := tF0 ⟨0, 7, [.s 1 k], nm k⟩ (List.mem_append_left _ (by rcases hk with rfl | rfl | rfl <;> simp))
 unfold TrueM at h
 have e : V.t (.s 1 k) = .sc (str [UInt8.ofNat k]) := by
  simp only [V.t]
  rw [T_bstr, bytesN_s, bytesN_0, Nat.mod_eq_of_lt hl]
 simpa only [V.tL, e, nT_t k hl] using h
theorem c_Binary : callF E 0 6 [] emp = some (.lst 1 (ml sT sg), emp) := by
 have h := tF0 ⟨0, 6, [], .lst 1 (sgT.map fun p => .s p.1 p.2)⟩ (List.mem_append_left _ (by simp))
 unfold TrueM at h
 have e : V.t (.lst 1 (sgT.map fun p => .s p.1 p.2)) = .lst 1 (ml sT sg) := by
  simp only [V.t, tL_map, List.map_map, ml, sg]
  congr 1
 simpa only [V.tL, e] using h
end Go.TM.P8
