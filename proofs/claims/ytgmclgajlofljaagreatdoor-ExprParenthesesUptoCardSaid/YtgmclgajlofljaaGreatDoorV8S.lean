/- Expressions, plain: how large a parsed expression and its text are. -/
import Derived.Test.YtgmclgajlofljaaGreatDoorV8B
import Derived.Test.YtgmclgajlofljaaGreatDoorV8D
import Derived.Test.YtgmclgajlofljaaGreatDoorR8V
import Derived.Test.YtgmclgajlofljaaGreatDoorR8S
set_option linter.all false
namespace Go.TM.R8
open Go Go.TM Go.Proofs
theorem sees_dec {s : List UInt8} {a b : Nat} {t : Tk} (h : Sees s a t b) : s.length ≤ 65536 ∧ ∃ p, skipF s a = (p, 0) ∧ a ≤ p ∧ p < s.length ∧ p < b ∧ b ≤ s.length ∧ lexR s p = ⟨t, b, 0⟩ := by
 unfold Sees nextI at h
 split at h
 ·cases h
 ·rename_i h1
  split at h
  ·cases h
  ·rename_i h2
   rw [Int.toNat_natCast] at h
   have hb := nx_bnd s a (by omega) (by rw [h])
   have hk := skipF_bnd s a (by omega)
   rw [h] at hb
   unfold next nextW at h
   split at h
   ·rename_i h3
    split at h
    ·rename_i h4
     refine ⟨by omega, (skipF s a).1, by rw [← h3], hk.1, h4, ?_, hb.2, h⟩
     unfold lexR at h
     cases hl : lexAt s (skipF s a).1 with
     | some r =>
      rw [hl] at h
      simp only [] at h
      subst h
      exact (lex_bnd s _ _ h4 hl rfl).1
     | none =>
      rw [hl] at h
      simp only [] at h
      unfold rPunct at h
      split at h
      ·cases h
      ·rename_i h5
       unfold ok3 at h
       injection h with _ h6 _
       omega
    ·cases h
   ·rename_i h3
    simp only [er, R3.mk.injEq] at h
    exact absurd h.2.2 h3
theorem sees_b {s : List UInt8} {a b : Nat} {t : Tk} (h : Sees s a t b) : a < b ∧ b ≤ s.length := by
 obtain ⟨_, p, _, h2, _, h4, h5, _⟩ := sees_dec h
 omega
theorem pn_b {s x : List UInt8} {a b : Nat} (h : Pn s a x b) : a < b ∧ b ≤ s.length := by
 obtain ⟨t, h, _⟩ := h
 exact sees_b h
theorem lex_tx {s : List UInt8} {p b : Nat} {t : Tk} (h : lexR s p = ⟨t, b, 0⟩) : (t.k = 4 ∧ lit s p = ⟨0, t.bits, t.sg, b⟩ ∧ t.bn = false ∧ (digit (B s p) || decide (B s p = 39)) = true) ∨ t.k = 5 ∨ (t.k ≠ 4 ∧ t.tx = sub s p b) := by
 unfold lexR lexAt at h
 by_cases h1 : letter (B s p) = true
 ·rw [if_pos h1] at h
  simp only [rName, ok3, R3.mk.injEq] at h
  obtain ⟨rfl, rfl, _⟩ := h
  exact .inr (.inr ⟨by show (if _ then 2 else 1) ≠ 4; split <;> decide, rfl⟩)
 rw [if_neg h1] at h
 by_cases h2 : (digit (B s p) || decide (B s p = 39)) = true
 ·rw [if_pos h2] at h
  simp only [] at h
  unfold rNum at h
  split at h
  ·rename_i h3
   simp only [R3.mk.injEq] at h
   obtain ⟨rfl, rfl, _⟩ := h
   refine .inl ⟨rfl, ?_, rfl, h2⟩
   generalize lit s p = r at *
   cases r; simp only [] at h3; subst h3; rfl
  ·rename_i h3
   simp only [er, R3.mk.injEq] at h
   exact absurd h.2.2 h3
 rw [if_neg h2] at h
 by_cases h3 : B s p = 36
 ·rw [if_pos h3] at h
  simp only [] at h
  unfold rSys at h
  split at h
  ·cases h
  ·simp only [ok3, R3.mk.injEq] at h
   obtain ⟨rfl, rfl, _⟩ := h
   exact .inr (.inr ⟨by show (3 : Nat) ≠ 4; decide, rfl⟩)
 rw [if_neg h3] at h
 by_cases h4 : B s p = 34
 ·rw [if_pos h4] at h
  simp only [] at h
  have : ∀ i l, (rStr s i l).e = 0 → (rStr s i l).t.k = 5 := by
   intro i l
   fun_induction rStr s i l <;> simp_all [er, ok3]
  have h5 := this (p + 1) [] (by rw [h])
  rw [h] at h5
  exact .inr (.inl h5)
 rw [if_neg h4] at h
 simp only [] at h
 unfold rPunct at h
 split at h
 ·cases h
 ·simp only [ok3, R3.mk.injEq] at h
  obtain ⟨rfl, rfl, _⟩ := h
  exact .inr (.inr ⟨by show (6 : Nat) ≠ 4; decide, rfl⟩)
theorem sees_tx {s : List UInt8} {a b : Nat} {t : Tk} (h : Sees s a t b) (h4 : t.k ≠ 4) (h5 : t.k ≠ 5) : t.tx.length ≤ b - a := by
 obtain ⟨_, p, _, h2, _, h3, h6, h7⟩ := sees_dec h
 rcases lex_tx h7 with g | g | g
 ·exact absurd g.1 h4
 ·exact absurd g h5
 ·rw [g.2]; unfold sub; simp; omega
theorem based2_w {s : List UInt8} {w : Nat} {sg : Bool} (h : (based2 s w sg).e = 0) : (based2 s w sg).bits.length = w ∧ 2 ≤ s.length := by
 unfold based2 at h ⊢
 split at h
 ·cases h
 ·rename_i h1
  rw [if_neg h1]
  split at h
  ·cases h
  ·rename_i p hp
   split at h
   ·rename_i h2
    have e : (if (digits p.1 p.2 (s.drop 1)).2 = 0 then (⟨0, vec p.1 (digits p.1 p.2 (s.drop 1)).1 w, sg, 0⟩ : Lit) else bad' (digits p.1 p.2 (s.drop 1)).2).bits.length = w := by rw [if_pos h2]; exact vec_len _ _ _
    refine ⟨by first | exact e | (rw [hp]; exact e), ?_⟩
    have : s.drop 1 ≠ [] := by
     intro e
     rw [e] at h2
     exact absurd h2 (by unfold digits; simp)
    have := List.length_pos_iff.2 this
    rw [List.length_drop] at this
    omega
   ·rename_i h2; exact absurd h h2
theorem based_w {s : List UInt8} {w : Nat} (h : (based s w).e = 0) : (based s w).bits.length = w ∧ 2 ≤ s.length := by
 unfold based at h ⊢
 split at h
 ·rename_i h1
  rw [if_pos h1]
  have := based2_w h
  rw [List.length_drop] at this
  omega
 ·rename_i h1
  rw [if_neg h1]
  exact based2_w h
theorem litQ_w {s : List UInt8} {z w : Nat} (hz : z < s.length) (h : (litQ s z w).e = 0) : (litQ s z w).bits.length = w ∧ z + 3 ≤ (litQ s z w).next := by
 unfold litQ at h ⊢
 split at h
 ·cases h
 ·rename_i h1
  rw [if_neg h1]
  split at h
  ·rename_i h2
   rw [if_pos h2]
   have h3 := based_w h2
   have hx := (extent_bnd wordQ (s.drop (z + 1)) 0).2 (Nat.zero_le _)
   rw [List.length_drop] at hx
   refine ⟨h3.1, ?_⟩
   have h4 := h3.2
   rw [sub_len _ _ _ (by omega)] at h4
   show z + 3 ≤ z + 1 + _
   omega
  ·rename_i h2; exact absurd h h2
theorem plainF_lt {s : List UInt8} {i m v : Nat} (h : plainF s i m = some v) : v < (m + 1) * 10 ^ (s.length - i) := by
 fun_induction plainF s i m
 case case1 i m h1 h2 ih =>
  have := ih h
  have hd : B s i ≤ 57 := by unfold digit at h2; simp only [Bool.and_eq_true, decide_eq_true_eq] at h2; omega
  have e : s.length - i = s.length - (i + 1) + 1 := by omega
  rw [e, Nat.pow_succ]
  refine Nat.lt_of_lt_of_le this ?_
  rw [Nat.mul_comm (10 ^ _) 10, ← Nat.mul_assoc]
  apply Nat.mul_le_mul_right
  omega
 case case2 i m h1 h2 h3 ih =>
  have := ih h
  refine Nat.lt_of_lt_of_le this ?_
  apply Nat.mul_le_mul_left
  exact Nat.pow_le_pow_right (by decide) (by omega)
 case case3 => cases h
 case case4 i m h1 =>
  simp only [Option.some.injEq] at h
  subst h
  have : 0 < 10 ^ (s.length - i) := Nat.pow_pos (by decide)
  have := Nat.mul_le_mul_left (m + 1) this
  omega
theorem plain_lt {s : List UInt8} {v : Nat} (h : plain s = some v) : v < 10 ^ s.length := by
 unfold plain at h
 split at h
 ·cases h
 ·split at h
  ·cases h
  ·have := plainF_lt h
   simpa using this
def NW (w d : Nat) : Prop := w ≤ 32 ∨ (w ≤ 99 ∧ 5 ≤ d) ∨ (w ≤ 128 ∧ 6 ≤ d)
theorem lit_w {s : List UInt8} {p b : Nat} {l : List Nat} {sg : Bool} (hp : p < s.length) (h : lit s p = ⟨0, l, sg, b⟩) : NW l.length (b - p) := by
 have hx := (extent_bnd word (s.drop p) 0).2 (Nat.zero_le _)
 rw [List.length_drop] at hx
 unfold lit at h
 have hq : hasPrefix (s.drop (p + extent word (s.drop p) 0)) [39] = true → p + extent word (s.drop p) 0 < s.length := by
  intro h
  rcases hasPrefix_le h with g | g
  ·simp at g; omega
  ·cases g
 have hpl : ∀ v, plain (sub s p (p + extent word (s.drop p) 0)) = some v → v < 10 ^ extent word (s.drop p) 0 := by
  intro v hv
  have := plain_lt hv
  rwa [sub_len _ _ _ (by omega), Nat.add_sub_cancel_left] at this
 generalize extent word (s.drop p) 0 = n at *
 generalize hasPrefix (s.drop (p + n)) [39] = q at *
 generalize plain (sub s p (p + n)) = m at *
 have hQ : ∀ w, q = true → litQ s (p + n) w = ⟨0, l, sg, b⟩ → l.length = w ∧ p + n + 3 ≤ b := by
  intro w h1 h2
  have := litQ_w (w := w) (hq h1) (by rw [h2])
  rw [h2] at this
  exact this
 unfold litN at h
 cases m with
 | none =>
  simp only [] at h
  split at h
  ·cases h
  ·rename_i h1
   have hq1 : q = true := by cases q <;> simp at h1 ⊢
   have := hQ 32 hq1 h
   exact .inl (by omega)
 | some m =>
  have hm := hpl m rfl
  simp only [] at h
  split at h
  ·split at h
   ·cases h
   ·injection h with _ h2 _ _
    left
    rw [← h2]
    simp [bvInt]
  ·rename_i h1
   have hq1 : q = true := by cases q <;> simp at h1 ⊢
   split at h
   ·have := hQ 32 hq1 h
    exact .inl (by omega)
   ·rename_i hn
    split at h
    ·cases h
    ·rename_i h2
     have := hQ m hq1 h
     by_cases h3 : n = 1
     ·subst h3; exact .inl (by omega)
     ·by_cases h4 : n = 2
      ·subst h4; exact .inr (.inl ⟨by omega, by omega⟩)
      ·exact .inr (.inr ⟨by omega, by omega⟩)
theorem numF_le {l : List Nat} {sg : Bool} (h : chk l = 0) : (numF l sg).1.length ≤ 11 ∨ ∃ k, l.length < 10 ^ (k + 1) ∧ (numF l sg).1.length ≤ k + 1 + 3 + l.length := by
 unfold numF
 rw [if_pos h]
 cases hn : decV l sg with
 | some n =>
  left
  have h2 := decV_lt hn
  have h3 := dec_len10 10 n (by omega)
  exact h3.2
 | none =>
  right
  have h1 := (chk_ok h).2.1
  have hg := dgB_len l
  by_cases h9 : l.length < 10
  ·refine ⟨0, by omega, ?_⟩
   have := (dec_len10 0 l.length (by omega)).2
   show (fmtB l sg).length ≤ _
   unfold fmtB
   simp only [List.length_append, List.length_cons]
   split <;> simp <;> omega
  ·by_cases h99 : l.length < 100
   ·refine ⟨1, by omega, ?_⟩
    have := (dec_len10 1 l.length (by omega)).2
    show (fmtB l sg).length ≤ _
    unfold fmtB
    simp only [List.length_append, List.length_cons]
    split <;> simp <;> omega
   ·refine ⟨2, by omega, ?_⟩
    have := (dec_len10 2 l.length (by omega)).2
    show (fmtB l sg).length ≤ _
    unfold fmtB
    simp only [List.length_append, List.length_cons]
    split <;> simp <;> omega
mutual
def big : Ex' → Bool
 | .mk _ name _ bits _ _ args _ _ _ => decide (70000 < name.length) || decide (70000 < bits.length) || bigL args
def bigL : List Ex' → Bool
 | [] => false
 | x :: xs => big x || bigL xs
end
theorem num_len {s : List UInt8} {a b : Nat} {t : Tk} (h : Sees s a t b) (h4 : t.k = 4) : t.bn = false ∧ t.bits.length ≤ 128 ∧ (chk t.bits = 0 → (numF t.bits t.sg).1.length ≤ 21 * (b - a) + 16) := by
 obtain ⟨_, p, _, h2, h2', h3, h6, h7⟩ := sees_dec h
 rcases lex_tx h7 with g | g | g
 ·have hw := lit_w h2' g.2.1
  refine ⟨g.2.2.1, ?_, fun hc => ?_⟩
  ·unfold NW at hw; omega
  ·have hd : b - p ≤ b - a := by omega
   rcases numF_le (sg := t.sg) hc with hn | ⟨k, hk, hn⟩
   ·omega
   ·unfold NW at hw
    have h1 := (chk_ok hc).2.1
    rcases hw with hw | ⟨hw, hq⟩ | ⟨hw, hq⟩
    ·by_cases k1 : k ≤ 1
     ·omega
     ·by_cases k2 : k = 2
      ·subst k2
       have := numF_le (sg := t.sg) hc
       unfold numF at hn ⊢
       rw [if_pos hc] at hn ⊢
       cases hv : decV t.bits t.sg with
       | some n =>
        have h2 := decV_lt hv
        have h3 := dec_len10 10 n (by omega)
        have := h3.2
        show (Lib.decDigits n).length ≤ _
        omega
       | none =>
        have hg := dgB_len t.bits
        have := (dec_len10 1 t.bits.length (by omega)).2
        show (fmtB t.bits t.sg).length ≤ _
        unfold fmtB
        simp only [List.length_append, List.length_cons]
        split <;> simp <;> omega
      ·unfold numF at hn ⊢
       rw [if_pos hc] at hn ⊢
       cases hv : decV t.bits t.sg with
       | some n =>
        have h2 := decV_lt hv
        have h3 := dec_len10 10 n (by omega)
        have := h3.2
        show (Lib.decDigits n).length ≤ _
        omega
       | none =>
        have hg := dgB_len t.bits
        have := (dec_len10 1 t.bits.length (by omega)).2
        show (fmtB t.bits t.sg).length ≤ _
        unfold fmtB
        simp only [List.length_append, List.length_cons]
        split <;> simp <;> omega
    ·unfold numF
     rw [if_pos hc]
     cases hv : decV t.bits t.sg with
     | some n =>
      have h2 := decV_lt hv
      have h3 := dec_len10 10 n (by omega)
      have := h3.2
      show (Lib.decDigits n).length ≤ _
      omega
     | none =>
      have hg := dgB_len t.bits
      have := (dec_len10 1 t.bits.length (by omega)).2
      show (fmtB t.bits t.sg).length ≤ _
      unfold fmtB
      simp only [List.length_append, List.length_cons]
      split <;> simp <;> omega
    ·unfold numF
     rw [if_pos hc]
     cases hv : decV t.bits t.sg with
     | some n =>
      have h2 := decV_lt hv
      have h3 := dec_len10 10 n (by omega)
      have := h3.2
      show (Lib.decDigits n).length ≤ _
      omega
     | none =>
      have hg := dgB_len t.bits
      have := (dec_len10 2 t.bits.length (by omega)).2
      show (fmtB t.bits t.sg).length ≤ _
      unfold fmtB
      simp only [List.length_append, List.length_cons]
      split <;> simp <;> omega
 ·omega
 ·exact absurd h4 g.1
theorem opOf_get : ∀ (tab : List (List UInt8)) (b : Nat) (x : List UInt8), opOf b x tab ≠ 0 → b ≤ opOf b x tab ∧ opOf b x tab < b + tab.length ∧ tab.getD (opOf b x tab - b) [] = x
 | [], b, x, h => absurd rfl h
 | y :: ys, b, x, h => by
  rw [opOf] at h ⊢
  split at h
  ·rename_i hy; rw [if_pos hy]; simp [hy]
  ·rename_i hy
   rw [if_neg hy]
   obtain ⟨h1, h2, h3⟩ := opOf_get ys (b + 1) x h
   refine ⟨by omega, by simp; omega, ?_⟩
   rw [show opOf (b + 1) x ys - b = (opOf (b + 1) x ys - (b + 1)) + 1 by omega]
   simpa using h3
theorem un_get {t : Tk} (h : unF t ≠ 0) : t.k = 6 ∧ 11 ≤ unF t ∧ unF t < 21 ∧ unSym.getD (unF t - 11) [] = t.tx := by
 unfold unF at h ⊢
 by_cases h6 : t.k = 6
 ·rw [if_pos h6] at h ⊢
  obtain ⟨h1, h2, h3⟩ := opOf_get _ _ _ h
  exact ⟨h6, h1, h2, h3⟩
 ·rw [if_neg h6] at h; exact absurd rfl h
theorem bi_get {t : Tk} (h : biF t ≠ 0) : t.k = 6 ∧ 21 ≤ biF t ∧ biF t < 45 ∧ biSym.getD (biF t - 21) [] = t.tx := by
 unfold biF at h ⊢
 by_cases h6 : t.k = 6
 ·rw [if_pos h6] at h ⊢
  obtain ⟨h1, h2, h3⟩ := opOf_get _ _ _ h
  exact ⟨h6, h1, h2, h3⟩
 ·rw [if_neg h6] at h; exact absurd rfl h
theorem can_mkE {o : Nat} {nm : List UInt8} {l : List Ex'} (h1 : o ≠ 1) (hn : (named o = true ∨ o = 9) ∨ nm = []) (h0 : l ≠ []) (hc : l.map can = l) : can (mkE o nm l) = mkE o nm l := by
 rw [can_eq]
 show (if o = 1 then _ else Ex'.mk o (if named o = true ∨ o = 9 then nm else []) true [] false l.isEmpty (l.map can) 0 0 false) = _
 rw [if_neg h1, hc]
 have e : (if named o = true ∨ o = 9 then nm else []) = nm := by
  rcases hn with hn | hn
  ·rw [if_pos hn]
  ·subst hn; split <;> rfl
 rw [e]
 cases l with
 | nil => exact absurd rfl h0
 | cons y ys => rfl
theorem chk_mkE {o : Nat} {nm : List UInt8} {l : List Ex'} (h : chkN (mkE o nm l) = 0) : chkL l = 0 := by
 rw [chkN_eq] at h
 split at h
 ·exact h
 ·rename_i h0; exact absurd h h0
theorem chk_cons {x : Ex'} {xs : List Ex'} (h : chkL (x :: xs) = 0) : chkN x = 0 ∧ chkL xs = 0 := by
 rw [chkL] at h
 split at h
 ·rename_i h0; exact ⟨h0, h⟩
 ·rename_i h0; exact absurd h h0
theorem size_mkE (o : Nat) (nm : List UInt8) (l : List Ex') : (size (mkE o nm l)).1 = (sizeL l).1 + 1 := by rw [size_eq]; rfl
theorem big_mkE (o : Nat) (nm : List UInt8) (l : List Ex') : big (mkE o nm l) = (decide (70000 < nm.length) || decide (70000 < 0) || bigL l) := by rw [mkE, big]; rfl
def PP (s : List UInt8) : Ex' ⊕ List Ex' → Nat → Nat → Prop
 | .inl x, a, b => a < b ∧ b ≤ s.length ∧ can x = x ∧ (size x).1 ≤ b - a ∧ big x = false ∧ (chkN x = 0 → (txt x).length ≤ 21 * (b - a) + 16)
 | .inr ys, a, b => a ≤ b ∧ ys.map can = ys ∧ (sizeL ys).1 ≤ b - a ∧ bigL ys = false ∧ (chkL ys = 0 → (moreT ys).length ≤ 21 * (b - a))
theorem len_un : ∀ o, o < 21 → (unSym.getD (o - 11) []).length ≤ 2 := by decide
theorem g_pp {s : List UInt8} {w : Ex' ⊕ List Ex'} {a b : Nat} (h : G s w a b) : PP s w a b := by
 have nm : ∀ {a b : Nat} {t : Tk}, Sees s a t b → t.k = 1 → t.tx.length ≤ b - a := fun h h1 => sees_tx h (by omega) (by omega)
 have B7 : ∀ n : Nat, n ≤ s.length → s.length ≤ 65536 → decide (70000 < n) = false := fun n h1 h2 => decide_eq_false (by omega)
 induction h with
 | @lit a b t h h4 =>
  have hb := sees_b h
  obtain ⟨n1, n2, n3⟩ := num_len h h4
  refine ⟨hb.1, hb.2, ?_, ?_, ?_, ?_⟩
  ·rw [can_eq, n1]; rfl
  ·show 0 + 1 ≤ _; omega
  ·rw [litE, big]; simp [bigL]; omega
  ·intro hc
   rw [t_lit rfl]
   rw [chkN_eq] at hc
   split at hc
   ·rename_i h0
    have := (ok_of (x := litE t.bn t.bits t.sg) (by rw [chkN_eq, if_pos h0]; exact hc)).li rfl
    exact n3 this
   ·rename_i h0; exact absurd hc h0
 | @ref a b t h h1 =>
  have hb := sees_b h
  have hl := (sees_dec h).1
  have hn := nm h h1
  refine ⟨hb.1, hb.2, by rw [can_eq]; rfl, by show 0 + 1 ≤ _; omega, ?_, fun _ => by rw [t_ref rfl]; show t.tx.length ≤ _; omega⟩
  rw [refE, big]; simp [bigL]; omega
 | @sel1 a b c d e t y h h1 hp hy hq ih =>
  obtain ⟨i1, i2, i3, i4, i5, i6⟩ := ih
  have hb := sees_b h; have hl := (sees_dec h).1; have hn := nm h h1; have p1 := pn_b hp; have p2 := pn_b hq
  refine ⟨by omega, by omega, can_mkE (by decide) (.inl (.inl rfl)) (by simp) (by simp [i3]), ?_, ?_, fun hc => ?_⟩
  ·rw [size_mkE]; simp only [sizeL]; omega
  ·rw [big_mkE, B7 _ (by omega) hl]; simp [bigL, i5]
  ·have c1 := i6 (chk_cons (chk_mkE hc)).1
   rw [t_sel1 rfl rfl]
   simp only [List.length_append, List.length_cons, List.length_nil]
   show t.tx.length + _ ≤ _
   omega
 | @sel2 a b c d e f g h' t y z h h1 hp hy hq hp2 hz hq2 ihy ihz =>
  obtain ⟨i1, i2, i3, i4, i5, i6⟩ := ihy
  obtain ⟨j1, j2, j3, j4, j5, j6⟩ := ihz
  have hb := sees_b h; have hl := (sees_dec h).1; have hn := nm h h1; have p1 := pn_b hp; have p2 := pn_b hq; have p3 := pn_b hp2; have p4 := pn_b hq2
  refine ⟨by omega, by omega, can_mkE (by decide) (.inl (.inl rfl)) (by simp) (by simp [i3, j3]), ?_, ?_, fun hc => ?_⟩
  ·rw [size_mkE]; simp only [sizeL]; omega
  ·rw [big_mkE, B7 _ (by omega) hl]; simp [bigL, i5, j5]
  ·have c1 := chk_cons (chk_mkE hc)
   have c2 := i6 c1.1
   have c3 := j6 (chk_cons c1.2).1
   rw [t_sel2 rfl rfl]
   simp only [List.length_append, List.length_cons, List.length_nil]
   show t.tx.length + _ ≤ _
   omega
 | @part a b c d e f g t y z h h1 hp hy hq hz hq2 ihy ihz =>
  obtain ⟨i1, i2, i3, i4, i5, i6⟩ := ihy
  obtain ⟨j1, j2, j3, j4, j5, j6⟩ := ihz
  have hb := sees_b h; have hl := (sees_dec h).1; have hn := nm h h1; have p1 := pn_b hp; have p2 := pn_b hq; have p4 := pn_b hq2
  refine ⟨by omega, by omega, can_mkE (by decide) (.inl (.inl rfl)) (by simp) (by simp [i3, j3]), ?_, ?_, fun hc => ?_⟩
  ·rw [size_mkE]; simp only [sizeL]; omega
  ·rw [big_mkE, B7 _ (by omega) hl]; simp [bigL, i5, j5]
  ·have c1 := chk_cons (chk_mkE hc)
   have c2 := i6 c1.1
   have c3 := j6 (chk_cons c1.2).1
   rw [t_part rfl rfl]
   simp only [List.length_append, List.length_cons, List.length_nil]
   show t.tx.length + _ ≤ _
   omega
 | @slice a b c d e f g t y z h h1 hp hy hq hz hq2 ihy ihz =>
  obtain ⟨i1, i2, i3, i4, i5, i6⟩ := ihy
  obtain ⟨j1, j2, j3, j4, j5, j6⟩ := ihz
  have hb := sees_b h; have hl := (sees_dec h).1; have hn := nm h h1; have p1 := pn_b hp; have p2 := pn_b hq; have p4 := pn_b hq2
  refine ⟨by omega, by omega, can_mkE (by decide) (.inl (.inl rfl)) (by simp) (by simp [i3, j3]), ?_, ?_, fun hc => ?_⟩
  ·rw [size_mkE]; simp only [sizeL]; omega
  ·rw [big_mkE, B7 _ (by omega) hl]; simp [bigL, i5, j5]
  ·have c1 := chk_cons (chk_mkE hc)
   have c2 := i6 c1.1
   have c3 := j6 (chk_cons c1.2).1
   rw [t_slice rfl rfl]
   simp only [List.length_append, List.length_cons, List.length_nil]
   show t.tx.length + _ ≤ _
   omega
 | @call a b c d e f t y ys h h1 hp hy hys hq ihy ihs =>
  obtain ⟨i1, i2, i3, i4, i5, i6⟩ := ihy
  obtain ⟨j1, j3, j4, j5, j6⟩ := ihs
  have hb := sees_b h; have hl := (sees_dec h).1; have hn := nm h h1; have p1 := pn_b hp; have p2 := pn_b hq
  refine ⟨by omega, by omega, can_mkE (by decide) (.inl (.inl rfl)) (by simp) (by simp [i3, j3]), ?_, ?_, fun hc => ?_⟩
  ·rw [size_mkE]; simp only [sizeL]; omega
  ·rw [big_mkE, B7 _ (by omega) hl]; simp [bigL, i5, j5]
  ·have c1 := chk_cons (chk_mkE hc)
   have c2 := i6 c1.1
   have c3 := j6 c1.2
   rw [t_call rfl rfl]
   simp only [List.length_append, List.length_cons, List.length_nil]
   show t.tx.length + _ ≤ _
   omega
 | @sys0 a b t h h3 hx =>
  have hb := sees_b h
  have hl := (sees_dec h).1
  have hn := sees_tx h (by omega) (by omega)
  refine ⟨hb.1, hb.2, by rw [can_eq]; rfl, by show 0 + 1 ≤ _; omega, ?_, fun _ => by rw [t_sys0 rfl rfl]; show t.tx.length ≤ _; omega⟩
  rw [refE, big]; simp [bigL]; omega
 | @sys1 a b c d e t y h h3 hx hp hy hq ih =>
  obtain ⟨i1, i2, i3, i4, i5, i6⟩ := ih
  have hb := sees_b h; have hl := (sees_dec h).1; have hn := sees_tx h (by omega) (by omega); have p1 := pn_b hp; have p2 := pn_b hq
  refine ⟨by omega, by omega, can_mkE (by decide) (.inl (.inr rfl)) (by simp) (by simp [i3]), ?_, ?_, fun hc => ?_⟩
  ·rw [size_mkE]; simp only [sizeL]; omega
  ·rw [big_mkE, B7 _ (by omega) hl]; simp [bigL, i5]
  ·have c1 := i6 (chk_cons (chk_mkE hc)).1
   rw [t_sys1 rfl rfl]
   simp only [List.length_append, List.length_cons, List.length_nil]
   show t.tx.length + _ ≤ _
   omega
 | @par a b c d y hp hy hq ih =>
  obtain ⟨i1, i2, i3, i4, i5, i6⟩ := ih
  have p1 := pn_b hp; have p2 := pn_b hq
  exact ⟨by omega, by omega, i3, by omega, i5, fun hc => by have := i6 hc; omega⟩
 | @cat a b c d e y ys hp hy hys hq ihy ihs =>
  obtain ⟨i1, i2, i3, i4, i5, i6⟩ := ihy
  obtain ⟨j1, j3, j4, j5, j6⟩ := ihs
  have p1 := pn_b hp; have p2 := pn_b hq
  refine ⟨by omega, by omega, can_mkE (by decide) (.inr rfl) (by simp) (by simp [i3, j3]), ?_, ?_, fun hc => ?_⟩
  ·rw [size_mkE]; simp only [sizeL]; omega
  ·rw [big_mkE]; simp [bigL, i5, j5]
  ·have c1 := chk_cons (chk_mkE hc)
   have c2 := i6 c1.1
   have c3 := j6 c1.2
   rw [t_cat rfl rfl]
   simp only [List.length_append, List.length_cons, List.length_nil]
   omega
 | @rep a b c d e f g h' n y ys hp hn hp2 hy hys hq hq2 ihn ihy ihs =>
  obtain ⟨k1, k2, k3, k4, k5, k6⟩ := ihn
  obtain ⟨i1, i2, i3, i4, i5, i6⟩ := ihy
  obtain ⟨j1, j3, j4, j5, j6⟩ := ihs
  have p1 := pn_b hp; have p2 := pn_b hq; have p3 := pn_b hp2; have p4 := pn_b hq2
  refine ⟨by omega, by omega, can_mkE (by decide) (.inr rfl) (by simp) (by simp [i3, j3, k3]), ?_, ?_, fun hc => ?_⟩
  ·rw [size_mkE]; simp only [sizeL]; omega
  ·rw [big_mkE]; simp [bigL, i5, j5, k5]
  ·have c1 := chk_cons (chk_mkE hc)
   have c2 := k6 c1.1
   have c3 := chk_cons c1.2
   have c4 := i6 c3.1
   have c5 := j6 c3.2
   rw [t_rep rfl rfl]
   simp only [List.length_append, List.length_cons, List.length_nil]
   omega
 | @un a b c t y h hu hy ih =>
  obtain ⟨i1, i2, i3, i4, i5, i6⟩ := ih
  obtain ⟨u1, u2, u3, u4⟩ := un_get hu
  have hb := sees_b h
  refine ⟨by omega, by omega, can_mkE (by omega) (.inr rfl) (by simp) (by simp [i3]), ?_, ?_, fun hc => ?_⟩
  ·rw [size_mkE]; simp only [sizeL]; omega
  ·rw [big_mkE]; simp [bigL, i5]
  ·have c1 := i6 (chk_cons (chk_mkE hc)).1
   have hq := len_un (unF t) u3
   rw [t_un (x := mkE (unF t) [] [y]) u2 u3 rfl]
   simp only [List.length_append, List.length_cons, List.length_nil]
   show (unSym.getD (unF t - 11) []).length + _ + _ ≤ _
   omega
 | @bin a b c d t x y hx h hu hy ihx ihy =>
  obtain ⟨i1, i2, i3, i4, i5, i6⟩ := ihx
  obtain ⟨j1, j2, j3, j4, j5, j6⟩ := ihy
  obtain ⟨u1, u2, u3, u4⟩ := bi_get hu
  have hb := sees_b h
  have hn := sees_tx h (by omega) (by omega)
  refine ⟨by omega, by omega, can_mkE (by omega) (.inr rfl) (by simp) (by simp [i3, j3]), ?_, ?_, fun hc => ?_⟩
  ·rw [size_mkE]; simp only [sizeL]; omega
  ·rw [big_mkE]; simp [bigL, i5, j5]
  ·have c1 := chk_cons (chk_mkE hc)
   have c2 := i6 c1.1
   have c3 := j6 (chk_cons c1.2).1
   have hq : (biSym.getD (biF t - 21) []).length ≤ c - b := by rw [u4]; exact hn
   rw [t_bin (x := mkE (biF t) [] [x, y]) u2 rfl]
   simp only [List.length_append, List.length_cons, List.length_nil]
   show (txt x).length + ((biSym.getD (biF t - 21) []).length + _ + _) + _ ≤ _
   omega
 | @cond a b c d e f x y z hx hp hy hq hz ihx ihy ihz =>
  obtain ⟨k1, k2, k3, k4, k5, k6⟩ := ihx
  obtain ⟨i1, i2, i3, i4, i5, i6⟩ := ihy
  obtain ⟨j1, j2, j3, j4, j5, j6⟩ := ihz
  have p1 := pn_b hp; have p2 := pn_b hq
  refine ⟨by omega, by omega, can_mkE (by decide) (.inr rfl) (by simp) (by simp [i3, j3, k3]), ?_, ?_, fun hc => ?_⟩
  ·rw [size_mkE]; simp only [sizeL]; omega
  ·rw [big_mkE]; simp [bigL, i5, j5, k5]
  ·have c1 := chk_cons (chk_mkE hc)
   have c2 := k6 c1.1
   have c3 := chk_cons c1.2
   have c4 := i6 c3.1
   have c5 := j6 (chk_cons c3.2).1
   rw [t_cond rfl rfl]
   simp only [List.length_append, List.length_cons, List.length_nil]
   omega
 | nil => exact ⟨Nat.le_refl _, rfl, Nat.zero_le _, rfl, fun _ => Nat.zero_le _⟩
 | @cons a b c d y ys hp hy hys ihy ihs =>
  obtain ⟨i1, i2, i3, i4, i5, i6⟩ := ihy
  obtain ⟨j1, j3, j4, j5, j6⟩ := ihs
  have p1 := pn_b hp
  refine ⟨by omega, by simp [i3, j3], by simp only [sizeL]; omega, by simp [bigL, i5, j5], fun hc => ?_⟩
  have c1 := chk_cons hc
  have c2 := i6 c1.1
  have c3 := j6 c1.2
  simp only [moreT, List.length_append, List.length_cons]
  omega
end Go.TM.R8
namespace Go.TM.R8
open Go Go.TM Go.Proofs Go.TM.A8
attribute [-simp] Int.natCast_add Int.natCast_mul List.drop_one
theorem bigL_mem : ∀ (xs : List Ex'), bigL xs = false → ∀ x ∈ xs, big x = false
 | [], _, x, h => by cases h
 | y :: xs, hh, x, h => by
  rw [bigL, Bool.or_eq_false_iff] at hh
  rcases List.mem_cons.1 h with rfl | h
  ·exact hh.1
  ·exact bigL_mem xs hh.2 x h
theorem big_no {x : Ex'} (hw : big x = false) : x.name.length ≤ 70000 ∧ x.bits.length ≤ 70000 ∧ bigL x.args = false := by
 cases x
 rw [big] at hw
 simp only [Bool.or_eq_false_iff, decide_eq_false_iff_not] at hw
 obtain ⟨⟨h1, h2⟩, h3⟩ := hw
 exact ⟨Nat.not_lt.1 h1, Nat.not_lt.1 h2, h3⟩
theorem named_casesB {o : Nat} (h : o = 1 ∨ o = 9) : named o = false := by rcases h with rfl | rfl <;> rfl
def CkB (f : FuncId) (x : Ex') : Prop := (size x).1 < 900000 → big x = false → callF E 0 f [x.t] emp = some (.sc (.int .i64 (chkN x : Int)), emp)
theorem c_checkNodesB : ∀ x : Ex', CkB f_expr_checkNodes x := by
 refine Ex'.ind2 (P := CkB f_expr_checkNodes) fun x ih hs hw => ?_
 obtain ⟨w1, w2, w3⟩ := big_no hw
 have ha : x.args.length < 2 ^ 62 := by have := args_len x; omega
 have hl := l_chk x 0 ha fun i hi => ih i hi (by have := size_arg x i hi; omega) (bigL_mem _ w3 _ (Ex'.gx_mem _ _ hi))
 rw [chX_eq, chkG_eq, List.drop_zero, show ((0 : Nat) : Int) = 0 from rfl] at hl
 have hi := c_ident x.name (by omega)
 have hy := c_system x ha
 have hc := c_Check x.bn x.vs x.bits (by omega)
 rw [chkN_eq]
 clear ih hs hw w1 w2 w3
 by_cases h1 : x.op < 1 ∨ 44 < x.op
 ·have ho : ownF x = 11 := by unfold ownF; rw [if_pos h1]
  rw [ho, if_neg (show ¬ (11 : Nat) = 0 by decide)]
  clear hl hi hy hc ho
  rcases h1 with h1 | h1
  ·(refine callF_light rfl pf_expr_checkNodes lf_expr_checkNodes (by simp [K_expr_checkNodes]) ?_; rw [evF_R, K_expr_checkNodes])
   simp (disch := omega) [*]
  ·have h2 : ¬ x.op < 1 := by omega
   (refine callF_light rfl pf_expr_checkNodes lf_expr_checkNodes (by simp [K_expr_checkNodes]) ?_; rw [evF_R, K_expr_checkNodes])
   simp (disch := omega) [*]
 have o1 : ¬ x.op < 1 := by omega
 have o2 : ¬ 44 < x.op := by omega
 by_cases h2 : arity x.op x.args.length = false
 ·have ho : ownF x = 3 := by unfold ownF; rw [if_neg h1, if_pos h2]
  rw [ho, if_neg (show ¬ (3 : Nat) = 0 by decide)]
  clear hl hi hy hc ho h1
  (refine callF_light rfl pf_expr_checkNodes lf_expr_checkNodes (by simp [K_expr_checkNodes]) ?_; rw [evF_R, K_expr_checkNodes])
  simp (disch := omega) [*]
 have a2 : arity x.op x.args.length = true := by simpa using h2
 by_cases h3 : named x.op = true ∧ ident x.name = false
 ·have ho : ownF x = 3 := by unfold ownF; rw [if_neg h1, if_neg h2, if_pos h3]
  rw [ho, if_neg (show ¬ (3 : Nat) = 0 by decide)]
  obtain ⟨h3, h4⟩ := h3
  clear hl hy hc ho h1 h2
  (refine callF_light rfl pf_expr_checkNodes lf_expr_checkNodes (by simp [K_expr_checkNodes]) ?_; rw [evF_R, K_expr_checkNodes])
  simp (disch := omega) [*]
 have g3 : named x.op = false ∨ ident x.name = true := by
  cases hn : named x.op
  ·exact .inl rfl
  ·cases hm : ident x.name
   ·exact absurd ⟨hn, hm⟩ h3
   ·exact .inr rfl
 by_cases h4 : x.op = 9
 ·have hn : named x.op = false := named_casesB (.inr h4)
  have a9 := a2
  rw [h4] at a9 hn
  have hN : callF E 0 f_expr_named [.sc (.int .u8 9)] emp = some (.sc (.bool false), emp) := c_named 9
  by_cases h5 : sysOk x.name x.args.length = false
  ·have ho : ownF x = 3 := by unfold ownF; rw [if_neg h1, if_neg h2, if_neg h3, if_pos ⟨h4, h5⟩]
   rw [ho, if_neg (show ¬ (3 : Nat) = 0 by decide)]
   clear hl hc hi g3 h3 ho h1 h2
   (refine callF_light rfl pf_expr_checkNodes lf_expr_checkNodes (by simp [K_expr_checkNodes]) ?_; rw [evF_R, K_expr_checkNodes])
   simp (disch := omega) [*]
  ·have ho : ownF x = 0 := by unfold ownF; rw [if_neg h1, if_neg h2, if_neg h3, if_neg (fun h => h5 h.2), if_neg (by omega)]
   have b5 : sysOk x.name x.args.length = true := by simpa using h5
   rw [ho, if_pos rfl]
   clear hc hi g3 h3 ho h1 h2 h5
   by_cases h6 : chkL x.args = 0
   ·rw [if_pos h6] at hl
    rw [h6]
    clear h6
    (refine callF_light rfl pf_expr_checkNodes lf_expr_checkNodes (by simp [K_expr_checkNodes]) ?_; rw [evF_R, K_expr_checkNodes])
    simp (disch := omega) [*]
   ·rw [if_neg h6] at hl
    clear h6
    (refine callF_light rfl pf_expr_checkNodes lf_expr_checkNodes (by simp [K_expr_checkNodes]) ?_; rw [evF_R, K_expr_checkNodes])
    simp (disch := omega) [*]
 by_cases h5 : x.op = 1
 ·have hn : named x.op = false := named_casesB (.inl h5)
  have ho : ownF x = chk x.bits := by unfold ownF; rw [if_neg h1, if_neg h2, if_neg h3, if_neg (fun h => h4 h.1), if_pos h5]
  have hz : x.args = [] := by
   rw [h5] at a2; unfold arity at a2; simpa using a2
  have hk : (if chk x.bits = 0 then chkL x.args else chk x.bits) = chk x.bits := by
   rw [hz]; split
   ·rename_i h; rw [h]; rfl
   ·rfl
  rw [ho, hk]
  have a9 := a2
  rw [h5] at a9 hn
  have hN : callF E 0 f_expr_named [.sc (.int .u8 1)] emp = some (.sc (.bool false), emp) := c_named 1
  clear hl hi hy h3 hz hk ho g3 h1 h2 h4
  (refine callF_light rfl pf_expr_checkNodes lf_expr_checkNodes (by simp [K_expr_checkNodes]) ?_; rw [evF_R, K_expr_checkNodes])
  simp (disch := omega) [*]
 have ho : ownF x = 0 := by unfold ownF; rw [if_neg h1, if_neg h2, if_neg h3, if_neg (fun h => h4 h.1), if_neg h5]
 rw [ho, if_pos rfl]
 clear ho h1 h2 h3
 by_cases h6 : chkL x.args = 0
 ·rw [if_pos h6] at hl
  rw [h6]
  clear h6 hc hy
  rcases g3 with g3 | g3
  ·(refine callF_light rfl pf_expr_checkNodes lf_expr_checkNodes (by simp [K_expr_checkNodes]) ?_; rw [evF_R, K_expr_checkNodes])
   simp (disch := omega) [*]
  ·cases hn : named x.op
   ·(refine callF_light rfl pf_expr_checkNodes lf_expr_checkNodes (by simp [K_expr_checkNodes]) ?_; rw [evF_R, K_expr_checkNodes])
    simp (disch := omega) [*]
   ·(refine callF_light rfl pf_expr_checkNodes lf_expr_checkNodes (by simp [K_expr_checkNodes]) ?_; rw [evF_R, K_expr_checkNodes])
    simp (disch := omega) [*]
 ·rw [if_neg h6] at hl
  clear h6 hc hy
  rcases g3 with g3 | g3
  ·(refine callF_light rfl pf_expr_checkNodes lf_expr_checkNodes (by simp [K_expr_checkNodes]) ?_; rw [evF_R, K_expr_checkNodes])
   simp (disch := omega) [*]
  ·cases hn : named x.op
   ·(refine callF_light rfl pf_expr_checkNodes lf_expr_checkNodes (by simp [K_expr_checkNodes]) ?_; rw [evF_R, K_expr_checkNodes])
    simp (disch := omega) [*]
   ·(refine callF_light rfl pf_expr_checkNodes lf_expr_checkNodes (by simp [K_expr_checkNodes]) ?_; rw [evF_R, K_expr_checkNodes])
    simp (disch := omega) [*]
theorem c_CheckB (x : Ex') (hs : (size x).1 < 900000) (hw : big x = false) : callF E 0 f_expr_Check [x.t] emp = some (.sc (.int .i64 (checkF x : Int)), emp) := by
 have h1 := c_size x (by omega)
 have h2 := c_checkNodesB x hs hw
 unfold checkF
 by_cases h3 : 4096 < (size x).1
 ·rw [if_pos (.inl h3)]
  clear h2 hs hw
  (refine callF_light rfl pf_expr_Check lf_expr_Check (by simp [K_expr_Check]) ?_; rw [evF_R, K_expr_Check])
  simp (disch := omega) [*]
 by_cases h4 : 64 < (size x).2
 ·rw [if_pos (.inr h4)]
  clear h2 hs hw
  (refine callF_light rfl pf_expr_Check lf_expr_Check (by simp [K_expr_Check]) ?_; rw [evF_R, K_expr_Check])
  simp (disch := omega) [*]
 ·rw [if_neg (by omega)]
  clear hs hw
  (refine callF_light rfl pf_expr_Check lf_expr_Check (by simp [K_expr_Check]) ?_; rw [evF_R, K_expr_Check])
  simp (disch := omega) [*]
end Go.TM.R8
