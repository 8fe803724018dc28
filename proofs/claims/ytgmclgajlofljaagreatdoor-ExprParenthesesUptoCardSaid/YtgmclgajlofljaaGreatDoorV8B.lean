/- Expressions, plain: the parser as a function of the text, the offset and the error. -/
import Derived.Test.YtgmclgajlofljaaGreatDoorQ8N
import Derived.Test.YtgmclgajlofljaaGreatDoorV8Y
import Derived.Test.YtgmclgajlofljaaGreatDoorR8S
set_option linter.all false
namespace Go.TM.R8
open Go Go.TM Go.Proofs
structure PS where
 a : Int
 e : Nat
def zTk : Tk := ⟨0, [], true, [], false⟩
def pkF (s : List UInt8) (p : PS) : Tk := if p.e = 0 then (if (nextI s p.a).e = 0 then (nextI s p.a).t else zTk) else zTk
def nxF (s : List UInt8) (p : PS) : Tk × PS := if p.e = 0 then ((nextI s p.a).t, ⟨(nextI s p.a).n, if (nextI s p.a).e = 8 then 4 else (nextI s p.a).e⟩) else (zTk, p)
def tkF (s : List UInt8) (x : List UInt8) (p : PS) : PS := if p.e = 0 then ⟨(takeR (mustR (nextI s p.a)) x).1, (takeR (mustR (nextI s p.a)) x).2⟩ else p
def myB (s : List UInt8) (x : List UInt8) (p : PS) : Bool := decide (p.e = 0) && decide ((takeR (mustR (nextI s p.a)) x).2 = 0)
def opOf (base : Nat) (x : List UInt8) : List (List UInt8) → Nat
 | [] => 0
 | y :: ys => if y = x then base else opOf (base + 1) x ys
def levelF (o : Nat) : Nat :=
 if o = 26 then 11 else if o = 23 ∨ o = 24 ∨ o = 25 then 10 else if o = 21 ∨ o = 22 then 9 else if o = 41 ∨ o = 42 ∨ o = 43 ∨ o = 44 then 8
 else if o = 31 ∨ o = 32 ∨ o = 33 ∨ o = 34 then 7 else if o = 27 ∨ o = 28 ∨ o = 29 ∨ o = 30 then 6 else if o = 37 then 5 else if o = 39 ∨ o = 40 then 4 else if o = 38 then 3 else if o = 35 then 2 else 1
def mkE (o : Nat) (name : List UInt8) (args : List Ex') : Ex' := .mk o name true [] false false args 0 0 false
def zE : Ex' := .mk 0 [] true [] false true [] 0 0 false
def litE (b : Bool) (bits : List Nat) (sg : Bool) : Ex' := .mk 1 [] b bits sg true [] 0 0 false
def refE (o : Nat) (name : List UInt8) : Ex' := .mk o name true [] false true [] 0 0 false
abbrev PF := PS → Ex' × PS
def restF (s : List UInt8) (fx : PF) : Nat → List Ex' → PS → List Ex' × PS
 | 0, l, p => (l, p)
 | n + 1, l, p => if myB s [44] p = true then restF s fx n (l ++ [(fx (tkF s [44] p)).1]) (fx (tkF s [44] p)).2 else (l, p)
def fuelR (s : List UInt8) : Nat := s.length + 3
def sysF (s : List UInt8) (fx : PF) (name : List UInt8) (p : PS) : Ex' × PS :=
 if name = sTime then (refE 9 name, p)
 else if name = sSig ∨ name = sUns then (mkE 9 name [(fx (tkF s [40] p)).1], tkF s [41] (fx (tkF s [40] p)).2)
 else (refE 9 name, ⟨p.a, 3⟩)
def rsF (s : List UInt8) (fx : PF) (l : List Ex') (p : PS) : List Ex' × PS := restF s fx (fuelR s) l p
def bra1 (s : List UInt8) (fx : PF) (x : Ex') (r : Ex' × PS) : Ex' × PS := (mkE 7 [] (rsF s fx [x, r.1] r.2).1, tkF s [125] (tkF s [125] (rsF s fx [x, r.1] r.2).2))
def bra2 (s : List UInt8) (fx : PF) (r : Ex' × PS) : Ex' × PS := (mkE 6 [] (rsF s fx [r.1] r.2).1, tkF s [125] (rsF s fx [r.1] r.2).2)
def bra (s : List UInt8) (fx : PF) (r : Ex' × PS) : Ex' × PS := if myB s [123] r.2 = true then bra1 s fx r.1 (fx (tkF s [123] r.2)) else bra2 s fx r
def braF (s : List UInt8) (fx : PF) (p : PS) : Ex' × PS := bra s fx (fx p)
def callE (s : List UInt8) (fx : PF) (name : List UInt8) (r : Ex' × PS) : Ex' × PS := (mkE 8 name (rsF s fx [r.1] r.2).1, tkF s [41] (rsF s fx [r.1] r.2).2)
def two (s : List UInt8) (o : Nat) (name : List UInt8) (x : Ex') (r : Ex' × PS) : Ex' × PS := (mkE o name [x, r.1], tkF s [93] r.2)
def sel1 (s : List UInt8) (fx : PF) (name : List UInt8) (x : Ex') (q : PS) : Ex' × PS := if myB s [91] q = true then two s 3 name x (fx (tkF s [91] q)) else (mkE 3 name [x], q)
def selE (s : List UInt8) (fx : PF) (name : List UInt8) (r : Ex' × PS) : Ex' × PS :=
 if myB s [58] r.2 = true then two s 4 name r.1 (fx (tkF s [58] r.2))
 else if myB s [43, 58] r.2 = true then two s 5 name r.1 (fx (tkF s [43, 58] r.2))
 else sel1 s fx name r.1 (tkF s [93] r.2)
def objF (s : List UInt8) (fx : PF) (name : List UInt8) (p : PS) : Ex' × PS :=
 if myB s [40] p = true then callE s fx name (fx (tkF s [40] p))
 else if myB s [91] p = true then selE s fx name (fx (tkF s [91] p))
 else (refE 2 name, p)
def priT (s : List UInt8) (fx : PF) (t : Tk) (q : PS) : Ex' × PS :=
 if q.e ≠ 0 then (zE, q)
 else if t.k = 4 then (litE t.bn t.bits t.sg, q)
 else if t.k = 1 then objF s fx t.tx q
 else if t.k = 3 then sysF s fx t.tx q
 else if t.k = 6 ∧ t.tx = [40] then ((fx q).1, tkF s [41] (fx q).2)
 else if t.k = 6 ∧ t.tx = [123] then braF s fx q
 else (zE, ⟨q.a, 3⟩)
def priF (s : List UInt8) (fx : PF) (p : PS) : Ex' × PS := priT s fx (nxF s p).1 (nxF s p).2
def entF (k : Nat) (p : PS) : PS := if p.e = 0 ∧ k = 0 then ⟨p.a, 5⟩ else p
def unF (t : Tk) : Nat := if t.k = 6 then opOf 11 t.tx unSym else 0
def un1 (o : Nat) (r : Ex' × PS) : Ex' × PS := (mkE o [] [r.1], r.2)
def unaF (s : List UInt8) (fx fu : PF) (p : PS) : Ex' × PS := if unF (pkF s p) ≠ 0 then un1 (unF (pkF s p)) (fu (nxF s p).2) else priF s fx p
def biF (t : Tk) : Nat := if t.k = 6 then opOf 21 t.tx biSym else 0
def lopF (s : List UInt8) (cl : Nat → PF) (least : Nat) : Nat → Ex' → PS → Ex' × PS
 | 0, x, p => (x, p)
 | n + 1, x, p => if biF (pkF s p) = 0 ∨ levelF (biF (pkF s p)) < least then (x, p)
  else lopF s cl least n (mkE (biF (pkF s p)) [] [x, (cl (levelF (biF (pkF s p)) + 1) (nxF s p).2).1]) (cl (levelF (biF (pkF s p)) + 1) (nxF s p).2).2
def cliF (s : List UInt8) (fu : PF) : Nat → Nat → PF
 | 0, _, p => fu p
 | f + 1, least, p => lopF s (cliF s fu f) least (fuelR s) (fu p).1 (fu p).2
def cond2 (x y : Ex') (r : Ex' × PS) : Ex' × PS := (mkE 10 [] [x, y, r.1], r.2)
def cond1 (s : List UInt8) (fx : PF) (x : Ex') (r : Ex' × PS) : Ex' × PS := cond2 x r.1 (fx (tkF s [58] r.2))
def condF (s : List UInt8) (fx : PF) (r : Ex' × PS) : Ex' × PS := if myB s [63] r.2 = true then cond1 s fx r.1 (fx (tkF s [63] r.2)) else r
def exF (s : List UInt8) (fx fu : PF) (p : PS) : Ex' × PS := condF s fx (cliF s fu 12 1 p)
def fuS (s : List UInt8) (fx fu : PF) (p : PS) : Ex' × PS := if p.e = 0 then unaF s fx fu p else (zE, p)
def fxS (s : List UInt8) (fx fu : PF) (p : PS) : Ex' × PS := if p.e = 0 then exF s fx (fuS s fx fu) p else (zE, p)
def lvF (s : List UInt8) : Nat → PF × PF
 | 0 => (fun p => (zE, entF 0 p), fun p => (zE, entF 0 p))
 | k + 1 => (fxS s (lvF s k).1 (lvF s k).2, fuS s (lvF s k).1 (lvF s k).2)
theorem lvF_1 (s : List UInt8) (k : Nat) : (lvF s (k + 1)).1 = fxS s (lvF s k).1 (lvF s k).2 := rfl
theorem lvF_2 (s : List UInt8) (k : Nat) : (lvF s (k + 1)).2 = fuS s (lvF s k).1 (lvF s k).2 := rfl
def hasT (t : Tk) (x : List UInt8) : Bool := (decide (t.k = 2) || decide (t.k = 6)) && decide (t.tx = x)
theorem mustR_e0 {r : R3} (h : r.e = 0) : mustR r = r := by unfold mustR; rw [if_neg (by omega)]
theorem mustR_ne {r : R3} (h : r.e ≠ 0) : (mustR r).e ≠ 0 := by unfold mustR; split <;> simp_all
theorem my_eq (s x : List UInt8) (p : PS) : myB s x p = hasT (pkF s p) x := by
 unfold myB pkF
 by_cases h : p.e = 0
 ·rw [if_pos h, decide_eq_true h, Bool.true_and]
  by_cases h2 : (nextI s p.a).e = 0
  ·rw [if_pos h2, mustR_e0 h2]
   unfold takeR hasT
   rw [if_pos h2]
   by_cases h3 : ((nextI s p.a).t.k = 2 ∨ (nextI s p.a).t.k = 6) ∧ (nextI s p.a).t.tx = x
   ·rw [if_pos h3]
    obtain ⟨h4, h5⟩ := h3
    rcases h4 with h4 | h4 <;> simp [h4, h5]
   ·rw [if_neg h3]
    have : (((decide ((nextI s p.a).t.k = 2) || decide ((nextI s p.a).t.k = 6)) && decide ((nextI s p.a).t.tx = x))) = false := by
     apply Bool.eq_false_iff.2
     intro h6
     simp only [Bool.and_eq_true, Bool.or_eq_true, decide_eq_true_eq] at h6
     exact h3 h6
    rw [this]; decide
  ·rw [if_neg h2]
   have h3 := mustR_ne h2
   unfold takeR
   rw [if_neg h3]
   simp [h3, hasT, zTk]
 ·rw [if_neg h, decide_eq_false h, Bool.false_and]
  simp [hasT, zTk]
def Sees (s : List UInt8) (a : Nat) (t : Tk) (b : Nat) : Prop := nextI s (a : Int) = ⟨t, b, 0⟩
def at0 (a : Nat) : PS := ⟨(a : Int), 0⟩
theorem sees_pk {s : List UInt8} {a b : Nat} {t : Tk} (h : Sees s a t b) : pkF s (at0 a) = t := by unfold pkF at0; unfold Sees at h; simp only [h, if_true]
theorem sees_nx {s : List UInt8} {a b : Nat} {t : Tk} (h : Sees s a t b) : nxF s (at0 a) = (t, at0 b) := by unfold nxF at0; unfold Sees at h; simp only [h, if_true]; rfl
theorem sees_tk {s : List UInt8} {a b : Nat} {t : Tk} {x : List UInt8} (h : Sees s a t b) (hx : hasT t x = true) : tkF s x (at0 a) = at0 b := by
 unfold tkF at0; unfold Sees at h
 unfold hasT at hx
 simp only [Bool.and_eq_true, Bool.or_eq_true, decide_eq_true_eq] at hx
 simp only [h, if_true, mustR, takeR, if_pos hx, show ¬ (0 : Nat) = 8 by decide, if_false]
theorem sees_my {s : List UInt8} {a b : Nat} {t : Tk} {x : List UInt8} (h : Sees s a t b) : myB s x (at0 a) = hasT t x := by rw [my_eq, sees_pk h]
theorem sees_e {s : List UInt8} {a : Nat} (t : Tk) : (at0 a).e = 0 := rfl
def puncts : List (List UInt8) := [[60, 60, 60], [62, 62, 62], [61, 61, 61], [33, 61, 61], [60, 60], [62, 62], [60, 61], [62, 61], [61, 61], [33, 61], [38, 38], [124, 124], [42, 42], [126, 38], [126, 124], [126, 94], [43, 58],
 [43], [45], [42], [47], [37], [60], [62], [33], [126], [38], [124], [94], [63], [58], [59], [44], [46], [40], [41], [91], [93], [123], [125], [35], [64], [61]]
theorem findS_one (c : UInt8) : ∀ l : List UInt8, (findS [c] l).isSome = true → c ∈ l
 | [], h => by simp [findS] at h
 | b :: l, h => by
  unfold findS at h
  by_cases hb : ([c] : List UInt8).isPrefixOf (b :: l) = true
  ·have : c = b := by simpa [List.isPrefixOf] using hb
   rw [this]; exact List.mem_cons_self
  ·rw [if_neg hb] at h
   exact List.mem_cons_of_mem _ (findS_one c l (by simpa using h))
theorem pw_in : ∀ p ∈ pwTab, p.2.toList ∈ puncts := by decide
theorem sg_in : ∀ c ∈ signs, [c] ∈ puncts := by decide
theorem punct_mem {x : List UInt8} (h : punct x = true) : x ∈ puncts := by
 unfold punct at h
 rw [Bool.or_eq_true] at h
 rcases h with h | h
 ·rw [List.any_eq_true] at h
  obtain ⟨p, hp, he⟩ := h
  rw [beq_iff_eq] at he
  rw [he]
  exact pw_in p hp
 ·rw [Bool.and_eq_true, decide_eq_true_eq] at h
  obtain ⟨h1, h2⟩ := h
  match x, h1 with
  | [c], _ => exact sg_in c (findS_one c signs h2)
theorem puncts_ok : ∀ x ∈ puncts, 1 ≤ x.length ∧ x.length ≤ 3 ∧ punct x = true := by decide
theorem pu_ok : ∀ x ∈ puncts, letter (B x 0) = false ∧ digit (B x 0) = false ∧ B x 0 ≠ 39 ∧ B x 0 ≠ 36 ∧ B x 0 ≠ 34 ∧ sep (B x 0) = false ∧ (B x 0 ≠ 47 ∨ x = [47]) := by decide
def bad2 (x : List UInt8) (c : UInt8) : Bool := puncts.any fun p => (x ++ [c]).isPrefixOf p
def fc (c : UInt8) : Bool := letter c.toNat || digit c.toNat || c == 40 || c == 123 || c == 36 || c == 32
theorem fc_tail : ∀ p ∈ puncts, ∀ d ∈ p.drop 1, fc d = false := by decide
theorem fc_bad {x : List UInt8} (c : UInt8) (hx : 0 < x.length) (hc : fc c = true) : bad2 x c = false := by
 unfold bad2
 rw [List.any_eq_false]
 intro p hp h
 rw [List.isPrefixOf_iff_prefix] at h
 obtain ⟨q, rfl⟩ := h
 have := fc_tail _ hp c (by
  rw [List.append_assoc, List.drop_append_of_le_length hx]
  simp)
 rw [hc] at this; cases this
def sole (x : List UInt8) : Bool := puncts.all fun p => !(x.isPrefixOf p) || decide (p = x)
theorem sole_bad {x : List UInt8} (c : UInt8) (h : sole x = true) : bad2 x c = false := by
 unfold bad2
 rw [List.any_eq_false]
 intro p hp hh
 have := (List.all_eq_true.1 h) p hp
 rw [List.isPrefixOf_iff_prefix] at hh
 obtain ⟨q, rfl⟩ := hh
 simp only [Bool.or_eq_true, Bool.not_eq_true', decide_eq_true_eq] at this
 rcases this with g | g
 ·rw [← Bool.not_eq_true, List.isPrefixOf_iff_prefix] at g
  exact g ⟨[c] ++ q, by simp⟩
 ·have := congrArg List.length g
  simp at this
theorem punctF_top (s : List UInt8) (m n : Nat) (h1 : 1 ≤ m) (h2 : m ≤ n) (hm : punct (sub s 0 (0 + m)) = true) (hn : ∀ j, m < j → j ≤ n → punct (sub s 0 (0 + j)) = false) : punctF s 0 n = m := by
 induction n with
 | zero => omega
 | succ n ih =>
  rw [punctF]
  by_cases h : m = n + 1
  ·subst h; rw [if_pos hm]
  ·rw [hn (n + 1) (by omega) (Nat.le_refl _)]
   simp only [Bool.false_eq_true, if_false]
   exact ih (by omega) fun j hj hj2 => hn j hj (by omega)
theorem sub_z (s : List UInt8) (j : Nat) : sub s 0 (0 + j) = s.take j := by unfold sub; simp
theorem rd_punct {x : List UInt8} (r : List UInt8) (hx : x ∈ puncts) (h : ∀ c r', r = c :: r' → bad2 x c = false) : lexR (x ++ r) 0 = ok3 6 x x.length := by
 obtain ⟨h1, h2, h3, h4, h5, h6, h7⟩ := pu_ok x hx
 obtain ⟨p1, p2, p3⟩ := puncts_ok x hx
 have hB : B (x ++ r) 0 = B x 0 := by unfold B; simp [List.getD_eq_getElem?_getD, List.getElem?_append_left p1]
 unfold lexR lexAt
 rw [hB, h1, h2]
 simp only [Bool.false_eq_true, if_false, Bool.false_or, decide_eq_true_eq, h3, h4, h5]
 have e : punctF (x ++ r) 0 (min 3 ((x ++ r).length - 0)) = x.length := by
  refine punctF_top _ _ _ p1 (by simp; omega) (by rw [sub_z, List.take_left]; exact p3) fun j hj hj2 => ?_
  rw [sub_z]
  cases r with
  | nil => simp at hj2; omega
  | cons c r' =>
   apply Bool.eq_false_iff.2
   intro hp
   have hm := punct_mem hp
   have := h c r' rfl
   unfold bad2 at this
   rw [List.any_eq_false] at this
   apply this _ hm
   rw [List.isPrefixOf_iff_prefix]
   refine ⟨r'.take (j - x.length - 1), ?_⟩
   rw [List.take_append, List.take_of_length_le (show x.length ≤ j by omega), List.take_cons (by omega)]
   simp
 unfold rPunct
 rw [e, if_neg (by omega), Nat.zero_add, show sub (x ++ r) 0 x.length = x by unfold sub; simp]
theorem skip_none (s : List UInt8) (h0 : 0 < s.length) (h1 : sep (B s 0) = false) (h2 : ∀ y : UInt8, y = 47 ∨ y = 42 → hasPrefix s [47, y] = false) : skipF s 0 = (0, 0) := by
 rw [skipF, if_pos h0, h1, List.drop_zero, h2 47 (.inl rfl), h2 42 (.inr rfl)]
 simp
theorem hp_no (s : List UInt8) (y : UInt8) (h : B s 0 ≠ 47) : hasPrefix s [47, y] = false := by
 cases s with
 | nil => rfl
 | cons b s =>
  have : b ≠ 47 := by intro e; apply h; subst e; rfl
  unfold hasPrefix
  cases s with
  | nil => simp
  | cons c s => simp [this]
theorem see {s : List UInt8} {a : Nat} {x r : List UInt8} {t : Tk} (hs : s.length ≤ 65536) (hd : s.drop a = x ++ r) (h0 : 0 < x.length) (hl : lexR (x ++ r) 0 = ⟨t, x.length, 0⟩) (hB : sep (B x 0) = false) (hc : B x 0 ≠ 47 ∨ (x = [47] ∧ ∃ r', r = 32 :: r')) :
  Sees s a t (a + x.length) ∧ s.drop (a + x.length) = r := by
 have ha : a < s.length := by
  have := congrArg List.length hd
  rw [List.length_drop, List.length_append] at this
  omega
 have hB2 : B (x ++ r) 0 = B x 0 := by unfold B; simp [List.getD_eq_getElem?_getD, List.getElem?_append_left h0]
 have hk : skipF (x ++ r) 0 = (0, 0) := by
  refine skip_none _ (by simp; omega) (by rw [hB2]; exact hB) fun y hy => ?_
  rcases hc with hc | ⟨rfl, r', rfl⟩
  ·exact hp_no _ y (by rw [hB2]; exact hc)
  ·unfold hasPrefix
   rcases hy with rfl | rfl <;> simp
 have hn : next (x ++ r) 0 = ⟨t, x.length, 0⟩ := by
  unfold next nextW
  rw [hk]
  simp only [if_true]
  rw [if_pos (by simp; omega), hl]
 constructor
 ·unfold Sees nextI
  rw [if_neg (by omega), if_neg (by omega), Int.toNat_natCast]
  have h1 : s = s.take a ++ (x ++ r) := by rw [← hd, List.take_append_drop]
  have h2 : (s.take a).length = a := by rw [List.length_take]; omega
  have := sh_next (s.take a) (x ++ r) 0
  rw [h2, hn, ← h1, Nat.add_zero] at this
  rw [this]; rfl
 ·rw [← List.drop_drop, hd, List.drop_left]
theorem see_sp {s : List UInt8} {a : Nat} {c : UInt8} {r : List UInt8} (hd : s.drop a = c :: r) (hc : sep c.toNat = true) : nextI s (a : Int) = nextI s ((a + 1 : Nat) : Int) ∧ s.drop (a + 1) = r := by
 have ha : a < s.length := by
  have := congrArg List.length hd
  rw [List.length_drop, List.length_cons] at this
  omega
 have hB : B s a = c.toNat := by
  rw [B_get s a ha]
  rw [List.drop_eq_getElem_cons ha] at hd
  injection hd with h1 _
  rw [h1]
 constructor
 ·unfold nextI
  split
  ·rfl
  ·rw [if_neg (by omega), if_neg (by omega), Int.toNat_natCast, Int.toNat_natCast]
   unfold next
   rw [skipF, if_pos ha, hB, if_pos hc]
 ·rw [← List.drop_drop, hd]; rfl
theorem sees_sp {s : List UInt8} {a b : Nat} {c : UInt8} {r : List UInt8} {t : Tk} (hd : s.drop a = c :: r) (hc : sep c.toNat = true) (h : Sees s (a + 1) t b) : Sees s a t b := by
 unfold Sees at *
 rw [(see_sp hd hc).1]; exact h
theorem pk_sp {s : List UInt8} {a : Nat} {c : UInt8} {r : List UInt8} (hd : s.drop a = c :: r) (hc : sep c.toNat = true) : pkF s (at0 a) = pkF s (at0 (a + 1)) := by
 unfold pkF at0
 rw [(see_sp hd hc).1]
theorem pk_end {s : List UInt8} {a : Nat} (hd : s.drop a = []) : pkF s (at0 a) = zTk := by
 have ha : s.length ≤ a := by
  have := congrArg List.length hd
  rw [List.length_drop, List.length_nil] at this
  omega
 unfold pkF at0
 simp only [if_true]
 rw [if_neg]
 unfold nextI
 split
 ·decide
 ·split
  ·decide
  ·have : a = s.length := by omega
   subst this
   rw [Int.toNat_natCast]
   unfold next
   rw [skipF, if_neg (by omega)]
   unfold nextW
   simp only [if_true]
   rw [if_neg (by omega)]
   decide
def pT (x : List UInt8) : Tk := ⟨6, x, true, [], false⟩
theorem see_p {s : List UInt8} {a : Nat} {x r : List UInt8} (hs : s.length ≤ 65536) (hd : s.drop a = x ++ r) (hx : x ∈ puncts) (h : ∀ c r', r = c :: r' → bad2 x c = false) (hc : B x 0 ≠ 47 ∨ ∃ r', r = 32 :: r') :
  Sees s a (pT x) (a + x.length) ∧ s.drop (a + x.length) = r := by
 obtain ⟨h1, h2, h3, h4, h5, h6, h7⟩ := pu_ok x hx
 refine see hs hd (puncts_ok x hx).1 (rd_punct r hx h) h6 ?_
 rcases hc with hc | hc
 ·exact .inl hc
 ·rcases h7 with h7 | h7
  ·exact .inl h7
  ·exact .inr ⟨h7, hc⟩
theorem see_1 {s : List UInt8} {a : Nat} {c : UInt8} {r : List UInt8} (hs : s.length ≤ 65536) (hd : s.drop a = c :: r) (hx : [c] ∈ puncts) (h : sole [c] = true) (hc : c ≠ 47) : Sees s a (pT [c]) (a + 1) ∧ s.drop (a + 1) = r :=
 see_p (x := [c]) hs hd hx (fun d _ _ => sole_bad d h) (.inl (fun e => hc (by apply UInt8.toNat_inj.1; exact e)))
theorem punctF_le (s : List UInt8) (a n : Nat) : punctF s a n ≤ n := by
 fun_induction punctF s a n <;> omega
theorem litQ_bnd (s : List UInt8) (z w : Nat) (hz : z < s.length) (h : (litQ s z w).e = 0) : z < (litQ s z w).next ∧ (litQ s z w).next ≤ s.length := by
 have b := (extent_bnd wordQ (s.drop (z + 1)) 0).2 (Nat.zero_le _)
 rw [List.length_drop] at b
 unfold litQ at h ⊢
 split at h
 ·cases h
 ·next h1 =>
  rw [if_neg h1]
  split at h
  ·next h2 =>
   rw [if_pos h2]
   simp only []
   omega
  ·next h2 => exact absurd h h2
theorem lit_bnd (s : List UInt8) (a : Nat) (ha : a < s.length) (h : (lit s a).e = 0) : a < (lit s a).next ∧ (lit s a).next ≤ s.length := by
 have b := (extent_bnd word (s.drop a) 0).2 (Nat.zero_le _)
 rw [List.length_drop] at b
 unfold lit at h ⊢
 generalize extent word (s.drop a) 0 = n at *
 generalize hq : hasPrefix (s.drop (a + n)) [39] = q at *
 have hq1 : q = true → a + n + 1 ≤ s.length := by
  intro e
  rw [e] at hq
  have := hasPrefix_le hq
  simp at this
  omega
 generalize hp : plain (sub s a (a + n)) = p at *
 cases p with
 | none =>
  unfold litN at h ⊢
  simp only [] at h ⊢
  split at h
  ·cases h
  ·next h1 =>
   rw [if_neg h1]
   have hq2 : q = true := by cases q <;> simp_all
   have := litQ_bnd s (a + n) 32 (by have := hq1 hq2; omega) h
   omega
 | some m =>
  have hn : 0 < n := by
   rcases Nat.eq_zero_or_pos n with h0 | h0
   ·subst h0
    have : sub s a (a + 0) = [] := by simp [sub]
    rw [this, plain, if_pos rfl] at hp
    cases hp
   ·exact h0
  unfold litN at h ⊢
  simp only [] at h ⊢
  split at h
  ·next h1 =>
   rw [if_pos h1]
   split at h
   ·cases h
   ·next h2 => rw [if_neg h2]; simp only []; omega
  ·next h1 =>
   rw [if_neg h1]
   have hq2 : q = true := by cases q <;> simp_all
   have hq3 := hq1 hq2
   split at h
   ·omega
   ·next h2 =>
    rw [if_neg h2]
    split at h
    ·cases h
    ·next h3 =>
     rw [if_neg h3]
     have := litQ_bnd s (a + n) m (by omega) h
     omega
theorem rStr_bnd (s : List UInt8) (i : Nat) (b : List UInt8) (h : (rStr s i b).e = 0) : i < (rStr s i b).n ∧ (rStr s i b).n ≤ s.length := by
 fun_induction rStr s i b <;> simp_all [er, ok3] <;> omega
theorem nameEnd_gt (s : List UInt8) (a : Nat) (ha : a < s.length) (h : letter (B s a) = true) : a < nameEnd s a a := by
 rw [nameEnd, if_pos ha, if_pos (by simp [h])]
 have := (nameEnd_ge s a (a + 1)).1
 omega
theorem lex_bnd (s : List UInt8) (p : Nat) (r : R3) (hp : p < s.length) (h : lexAt s p = some r) (he : r.e = 0) : p < r.n ∧ r.n ≤ s.length := by
 unfold lexAt at h
 split at h
 ·next hl =>
  simp only [Option.some.injEq] at h; subst h
  exact ⟨nameEnd_gt s p hp hl, (nameEnd_ge s p p).2 (by omega)⟩
 ·split at h
  ·simp only [Option.some.injEq] at h; subst h
   unfold rNum at he ⊢
   split
   ·next hh => exact lit_bnd s p hp hh
   ·next hh => rw [if_neg hh] at he; exact absurd he hh
  ·split at h
   ·simp only [Option.some.injEq] at h; subst h
    have g := nameEnd_ge s (p + 1) (p + 1)
    unfold rSys at he ⊢
    split
    ·next hh => rw [if_pos hh] at he; cases he
    ·next hh => unfold ok3; simp only []; exact ⟨by omega, g.2 (by omega)⟩
   ·split at h
    ·simp only [Option.some.injEq] at h; subst h
     have := rStr_bnd _ _ _ he
     omega
    ·cases h
theorem nx_bnd (s : List UInt8) (a : Nat) (ha : a ≤ s.length) (he : (next s a).e = 0) : a < (next s a).n ∧ (next s a).n ≤ s.length := by
 have h2 := skipF_bnd s a ha
 unfold next nextW at he ⊢
 split at he
 ·next h0 =>
  rw [if_pos h0]
  split at he
  ·next h1 =>
   rw [if_pos h1]
   unfold lexR at he ⊢
   cases hl : lexAt s (skipF s a).1 with
   | some r =>
    rw [hl] at he
    have := lex_bnd s _ r h1 hl he
    simp only []
    omega
   | none =>
    rw [hl] at he
    simp only [] at he ⊢
    unfold rPunct at he ⊢
    split at he
    ·cases he
    ·next hp =>
     rw [if_neg hp]
     have := punctF_le s (skipF s a).1 (min 3 (s.length - (skipF s a).1))
     unfold ok3
     simp only []
     omega
  ·cases he
 ·next h0 => exact absurd he h0
theorem nxI_bnd (s : List UInt8) (i : Int) (he : (nextI s i).e = 0) : 0 ≤ i ∧ i < (nextI s i).n ∧ (nextI s i).n ≤ s.length ∧ s.length ≤ 65536 := by
 unfold nextI at he ⊢
 split at he
 ·cases he
 ·next h1 =>
  split at he
  ·cases he
  ·next h2 =>
   rw [if_neg h1, if_neg h2]
   have := nx_bnd s i.toNat (by omega) he
   omega
def mu (s : List UInt8) (p : PS) : Nat := if p.e = 0 then s.length + 2 - p.a.toNat else 0
theorem mu_fuel (s : List UInt8) (p : PS) : mu s p < fuelR s := by unfold mu fuelR; split <;> omega
theorem pk_e {s : List UInt8} {p : PS} (h : (pkF s p).k ≠ 0) : p.e = 0 ∧ (nextI s p.a).e = 0 := by
 unfold pkF at h
 by_cases h1 : p.e = 0
 ·rw [if_pos h1] at h
  by_cases h2 : (nextI s p.a).e = 0
  ·exact ⟨h1, h2⟩
  ·rw [if_neg h2] at h; exact absurd rfl h
 ·rw [if_neg h1] at h; exact absurd rfl h
theorem hasT_k {t : Tk} {x : List UInt8} (h : hasT t x = true) : t.k ≠ 0 := by
 unfold hasT at h
 simp only [Bool.and_eq_true, Bool.or_eq_true, decide_eq_true_eq] at h
 omega
theorem mu_nx {s : List UInt8} {p : PS} (h : (pkF s p).k ≠ 0) : mu s (nxF s p).2 < mu s p := by
 obtain ⟨h1, h2⟩ := pk_e h
 have h3 := nxI_bnd s p.a h2
 unfold nxF mu
 rw [if_pos h1, if_pos h1]
 simp only [h2, show ¬ (0 : Nat) = 8 by decide, if_false, if_true]
 omega
theorem mu_tk {s x : List UInt8} {p : PS} (h : myB s x p = true) : mu s (tkF s x p) < mu s p := by
 rw [my_eq] at h
 obtain ⟨h1, h2⟩ := pk_e (hasT_k h)
 have h3 := nxI_bnd s p.a h2
 have h4 : (pkF s p) = (nextI s p.a).t := by unfold pkF; rw [if_pos h1, if_pos h2]
 rw [h4] at h
 unfold hasT at h
 simp only [Bool.and_eq_true, Bool.or_eq_true, decide_eq_true_eq] at h
 unfold tkF mu
 rw [if_pos h1, if_pos h1, mustR_e0 h2]
 unfold takeR
 rw [if_pos h2, if_pos h]
 simp only [if_true]
 omega
theorem tk_le (s x : List UInt8) (p : PS) : mu s (tkF s x p) ≤ mu s p := by
 by_cases h : myB s x p = true
 ·exact Nat.le_of_lt (mu_tk h)
 ·by_cases h1 : p.e = 0
  ·have h2 : ¬ (takeR (mustR (nextI s p.a)) x).2 = 0 := by
    intro h3; apply h; unfold myB; simp [h1, h3]
   unfold tkF mu
   rw [if_pos h1, if_neg h2]
   omega
  ·unfold tkF; rw [if_neg h1]; exact Nat.le_refl _
theorem nx_le (s : List UInt8) (p : PS) : mu s (nxF s p).2 ≤ mu s p := by
 unfold nxF
 by_cases h1 : p.e = 0
 ·rw [if_pos h1]
  by_cases h2 : (nextI s p.a).e = 0
  ·have h3 := nxI_bnd s p.a h2
   unfold mu
   rw [if_pos h1]
   simp only [h2, show ¬ (0 : Nat) = 8 by decide, if_false, if_true]
   omega
  ·unfold mu
   simp only []
   by_cases h8 : (nextI s p.a).e = 8
   ·rw [if_pos h8, if_neg (by decide)]; omega
   ·rw [if_neg h8, if_neg h2]; omega
 ·rw [if_neg h1]; exact Nat.le_refl _
def Mo (s : List UInt8) (fx : PF) : Prop := ∀ p, mu s (fx p).2 ≤ mu s p
theorem err_le (s : List UInt8) (p : PS) (e : Nat) (h : e ≠ 0) : mu s ⟨p.a, e⟩ ≤ mu s p := by unfold mu; rw [if_neg h]; omega
theorem rest_le {s : List UInt8} {fx : PF} (h : Mo s fx) : ∀ (n : Nat) (l : List Ex') (p : PS), mu s (restF s fx n l p).2 ≤ mu s p
 | 0, l, p => Nat.le_refl _
 | n + 1, l, p => by
  rw [restF]
  split
  ·exact Nat.le_trans (rest_le h n _ _) (Nat.le_trans (h _) (tk_le s _ p))
  ·exact Nat.le_refl _
theorem lop_le {s : List UInt8} {cl : Nat → PF} (h : ∀ j, Mo s (cl j)) (least : Nat) : ∀ (n : Nat) (x : Ex') (p : PS), mu s (lopF s cl least n x p).2 ≤ mu s p
 | 0, x, p => Nat.le_refl _
 | n + 1, x, p => by
  rw [lopF]
  split
  ·exact Nat.le_refl _
  ·exact Nat.le_trans (lop_le h least n _ _) (Nat.le_trans (h _ _) (nx_le s p))
theorem cli_le {s : List UInt8} {fu : PF} (h : Mo s fu) : ∀ (f j : Nat), Mo s (cliF s fu f j)
 | 0, j, p => h p
 | f + 1, j, p => Nat.le_trans (lop_le (fun i => cli_le h f i) j _ _ _) (h p)
theorem pri_le {s : List UInt8} {fx : PF} (h : Mo s fx) : Mo s (priF s fx) := by
 intro p
 have T := fun x q => tk_le s x q
 unfold priF priT
 refine Nat.le_trans ?_ (nx_le s p)
 generalize (nxF s p).1 = t
 generalize (nxF s p).2 = q
 split
 ·exact Nat.le_refl _
 split
 ·exact Nat.le_refl _
 split
 ·unfold objF
  split
  ·exact Nat.le_trans (T _ _) (Nat.le_trans (rest_le h _ _ _) (Nat.le_trans (h _) (T _ _)))
  split
  ·refine Nat.le_trans ?_ (Nat.le_trans (h _) (T [91] q))
   generalize fx (tkF s [91] q) = r
   unfold selE
   split
   ·exact Nat.le_trans (T _ _) (Nat.le_trans (h _) (T _ _))
   split
   ·exact Nat.le_trans (T _ _) (Nat.le_trans (h _) (T _ _))
   unfold sel1
   split
   ·exact Nat.le_trans (T _ _) (Nat.le_trans (h _) (Nat.le_trans (T _ _) (T _ _)))
   ·exact T _ _
  ·exact Nat.le_refl _
 split
 ·unfold sysF
  split
  ·exact Nat.le_refl _
  split
  ·exact Nat.le_trans (T _ _) (Nat.le_trans (h _) (T _ _))
  ·exact err_le s q 3 (by decide)
 split
 ·exact Nat.le_trans (T _ _) (h _)
 split
 ·unfold braF bra
  refine Nat.le_trans ?_ (h q)
  generalize fx q = r
  split
  ·exact Nat.le_trans (T _ _) (Nat.le_trans (T _ _) (Nat.le_trans (rest_le h _ _ _) (Nat.le_trans (h _) (T _ _))))
  ·exact Nat.le_trans (T _ _) (rest_le h _ _ _)
 ·exact err_le s q 3 (by decide)
theorem fu_le {s : List UInt8} {fx fu : PF} (h : Mo s fx) (h2 : Mo s fu) : Mo s (fuS s fx fu) := by
 intro p
 unfold fuS unaF
 split
 ·split
  ·exact Nat.le_trans (h2 _) (nx_le s p)
  ·exact pri_le h p
 ·exact Nat.le_refl _
theorem fx_le {s : List UInt8} {fx fu : PF} (h : Mo s fx) (h2 : Mo s fu) : Mo s (fxS s fx fu) := by
 intro p
 unfold fxS exF
 split
 ·refine Nat.le_trans ?_ (cli_le (fu_le h h2) 12 1 p)
  generalize cliF s (fuS s fx fu) 12 1 p = r
  unfold condF
  split
  ·exact Nat.le_trans (h _) (Nat.le_trans (tk_le s _ _) (Nat.le_trans (h _) (tk_le s _ _)))
  ·exact Nat.le_refl _
 ·exact Nat.le_refl _
theorem lv_le (s : List UInt8) : ∀ K, Mo s (lvF s K).1 ∧ Mo s (lvF s K).2
 | 0 => by
  have : ∀ p, mu s (entF 0 p) ≤ mu s p := by
   intro p; unfold entF; split
   ·exact err_le s p 5 (by decide)
   ·exact Nat.le_refl _
  exact ⟨this, this⟩
 | K + 1 => ⟨fx_le (lv_le s K).1 (lv_le s K).2, fu_le (lv_le s K).1 (lv_le s K).2⟩
def Pn (s : List UInt8) (a : Nat) (x : List UInt8) (b : Nat) : Prop := ∃ t, Sees s a t b ∧ hasT t x = true
inductive G (s : List UInt8) : Ex' ⊕ List Ex' → Nat → Nat → Prop
 | lit {a b : Nat} {t : Tk} : Sees s a t b → t.k = 4 → G s (.inl (litE t.bn t.bits t.sg)) a b
 | ref {a b : Nat} {t : Tk} : Sees s a t b → t.k = 1 → G s (.inl (refE 2 t.tx)) a b
 | sel1 {a b c d e : Nat} {t : Tk} {y : Ex'} : Sees s a t b → t.k = 1 → Pn s b [91] c → G s (.inl y) c d → Pn s d [93] e → G s (.inl (mkE 3 t.tx [y])) a e
 | sel2 {a b c d e f g h : Nat} {t : Tk} {y z : Ex'} : Sees s a t b → t.k = 1 → Pn s b [91] c → G s (.inl y) c d → Pn s d [93] e → Pn s e [91] f → G s (.inl z) f g → Pn s g [93] h → G s (.inl (mkE 3 t.tx [y, z])) a h
 | part {a b c d e f g : Nat} {t : Tk} {y z : Ex'} : Sees s a t b → t.k = 1 → Pn s b [91] c → G s (.inl y) c d → Pn s d [58] e → G s (.inl z) e f → Pn s f [93] g → G s (.inl (mkE 4 t.tx [y, z])) a g
 | slice {a b c d e f g : Nat} {t : Tk} {y z : Ex'} : Sees s a t b → t.k = 1 → Pn s b [91] c → G s (.inl y) c d → Pn s d [43, 58] e → G s (.inl z) e f → Pn s f [93] g → G s (.inl (mkE 5 t.tx [y, z])) a g
 | call {a b c d e f : Nat} {t : Tk} {y : Ex'} {ys : List Ex'} : Sees s a t b → t.k = 1 → Pn s b [40] c → G s (.inl y) c d → G s (.inr ys) d e → Pn s e [41] f → G s (.inl (mkE 8 t.tx (y :: ys))) a f
 | sys0 {a b : Nat} {t : Tk} : Sees s a t b → t.k = 3 → t.tx = sTime → G s (.inl (refE 9 t.tx)) a b
 | sys1 {a b c d e : Nat} {t : Tk} {y : Ex'} : Sees s a t b → t.k = 3 → (t.tx = sSig ∨ t.tx = sUns) → Pn s b [40] c → G s (.inl y) c d → Pn s d [41] e → G s (.inl (mkE 9 t.tx [y])) a e
 | par {a b c d : Nat} {y : Ex'} : Pn s a [40] b → G s (.inl y) b c → Pn s c [41] d → G s (.inl y) a d
 | cat {a b c d e : Nat} {y : Ex'} {ys : List Ex'} : Pn s a [123] b → G s (.inl y) b c → G s (.inr ys) c d → Pn s d [125] e → G s (.inl (mkE 6 [] (y :: ys))) a e
 | rep {a b c d e f g h : Nat} {n y : Ex'} {ys : List Ex'} : Pn s a [123] b → G s (.inl n) b c → Pn s c [123] d → G s (.inl y) d e → G s (.inr ys) e f → Pn s f [125] g → Pn s g [125] h → G s (.inl (mkE 7 [] (n :: y :: ys))) a h
 | un {a b c : Nat} {t : Tk} {y : Ex'} : Sees s a t b → unF t ≠ 0 → G s (.inl y) b c → G s (.inl (mkE (unF t) [] [y])) a c
 | bin {a b c d : Nat} {t : Tk} {x y : Ex'} : G s (.inl x) a b → Sees s b t c → biF t ≠ 0 → G s (.inl y) c d → G s (.inl (mkE (biF t) [] [x, y])) a d
 | cond {a b c d e f : Nat} {x y z : Ex'} : G s (.inl x) a b → Pn s b [63] c → G s (.inl y) c d → Pn s d [58] e → G s (.inl z) e f → G s (.inl (mkE 10 [] [x, y, z])) a f
 | nil {a : Nat} : G s (.inr []) a a
 | cons {a b c d : Nat} {y : Ex'} {ys : List Ex'} : Pn s a [44] b → G s (.inl y) b c → G s (.inr ys) c d → G s (.inr (y :: ys)) a d
theorem at_of {s : List UInt8} {p : PS} (h1 : p.e = 0) (h2 : (nextI s p.a).e = 0) : p = at0 p.a.toNat ∧ Sees s p.a.toNat (nextI s p.a).t (nextI s p.a).n := by
 have h3 := (nxI_bnd s p.a h2).1
 have e : ((p.a.toNat : Nat) : Int) = p.a := Int.toNat_of_nonneg h3
 constructor
 ·cases p; simp only [at0] at *; subst h1; rw [e]
 ·unfold Sees; rw [e]
  generalize nextI s p.a = r at *
  cases r; simp only [] at h2; subst h2; rfl
theorem my_su {s x : List UInt8} {p : PS} (h : myB s x p = true) : ∃ a b, p = at0 a ∧ tkF s x p = at0 b ∧ Pn s a x b := by
 rw [my_eq] at h
 obtain ⟨h1, h2⟩ := pk_e (hasT_k h)
 have h4 : (pkF s p) = (nextI s p.a).t := by unfold pkF; rw [if_pos h1, if_pos h2]
 rw [h4] at h
 obtain ⟨e1, e2⟩ := at_of h1 h2
 refine ⟨_, _, e1, ?_, _, e2, h⟩
 have := sees_tk e2 h
 rw [← e1] at this
 exact this
theorem tk_su {s x : List UInt8} {p : PS} (h : (tkF s x p).e = 0) : ∃ a b, p = at0 a ∧ tkF s x p = at0 b ∧ Pn s a x b := by
 apply my_su
 unfold tkF at h
 split at h
 ·rename_i h1
  unfold myB
  rw [decide_eq_true h1, Bool.true_and]
  exact decide_eq_true h
 ·rename_i h1; exact absurd h h1
theorem at_inj {a b : Nat} (h : at0 a = at0 b) : a = b := by
 have := congrArg PS.a h
 simp only [at0] at this
 omega
theorem nx_su {s : List UInt8} {p : PS} (h : (pkF s p).k ≠ 0) : ∃ a b, p = at0 a ∧ (nxF s p).2 = at0 b ∧ Sees s a (pkF s p) b := by
 obtain ⟨h1, h2⟩ := pk_e h
 have h4 : (pkF s p) = (nextI s p.a).t := by unfold pkF; rw [if_pos h1, if_pos h2]
 obtain ⟨e1, e2⟩ := at_of h1 h2
 refine ⟨_, _, e1, ?_, h4 ▸ e2⟩
 have := sees_nx e2
 rw [← e1] at this
 rw [this]
theorem nx_su2 {s : List UInt8} {p : PS} (h : (nxF s p).2.e = 0) : ∃ a b, p = at0 a ∧ (nxF s p).2 = at0 b ∧ Sees s a (nxF s p).1 b := by
 have h0 : p.e = 0 := by
  unfold nxF at h
  split at h
  ·assumption
  ·exact h
 have h2 : (nextI s p.a).e = 0 := by
  unfold nxF at h
  rw [if_pos h0] at h
  simp only [] at h
  split at h
  ·cases h
  ·exact h
 obtain ⟨e1, e2⟩ := at_of h0 h2
 have := sees_nx e2
 rw [← e1] at this
 refine ⟨_, _, e1, by rw [this], by rw [this]; exact e2⟩
def Su (s : List UInt8) (fx : PF) : Prop := ∀ p, (fx p).2.e = 0 → ∃ a b, p = at0 a ∧ (fx p).2 = at0 b ∧ G s (.inl (fx p).1) a b
theorem rest_er {s : List UInt8} {fx : PF} (h : Su s fx) : ∀ (n : Nat) (l : List Ex') (p : PS), (restF s fx n l p).2.e = 0 → p.e = 0
 | 0, l, p, he => he
 | n + 1, l, p, he => by
  rw [restF] at he
  split at he
  ·rename_i hb
   obtain ⟨a, b, e1, _⟩ := my_su hb
   rw [e1]; rfl
  ·exact he
theorem rest_su {s : List UInt8} {fx : PF} (h : Su s fx) : ∀ (n : Nat) (l : List Ex') (a : Nat), (restF s fx n l (at0 a)).2.e = 0 → ∃ b ys, restF s fx n l (at0 a) = (l ++ ys, at0 b) ∧ G s (.inr ys) a b
 | 0, l, a, he => ⟨a, [], by simp [restF], .nil⟩
 | n + 1, l, a, he => by
  rw [restF] at he ⊢
  split at he
  ·rename_i hb
   rw [if_pos hb]
   obtain ⟨a1, b, e1, e2, h3⟩ := my_su hb
   have := at_inj e1; subst this
   rw [e2] at he ⊢
   have he2 := rest_er h _ _ _ he
   obtain ⟨c, d, f1, f2, f3⟩ := h _ he2
   have := at_inj f1; subst this
   rw [f2] at he ⊢
   obtain ⟨f, ys, g1, g2⟩ := rest_su h n _ _ he
   exact ⟨f, (fx (at0 b)).1 :: ys, by rw [g1]; simp, .cons h3 f3 g2⟩
  ·rename_i hb
   rw [if_neg hb]
   exact ⟨a, [], by simp, .nil⟩
theorem lop_er {s : List UInt8} {cl : Nat → PF} (h : ∀ j, Su s (cl j)) (least : Nat) : ∀ (n : Nat) (x : Ex') (p : PS), (lopF s cl least n x p).2.e = 0 → p.e = 0
 | 0, x, p, he => he
 | n + 1, x, p, he => by
  rw [lopF] at he
  split at he
  ·exact he
  ·rename_i hb
   exact (pk_e (s := s) (p := p) (by intro h0; apply hb; left; unfold biF; rw [if_neg (by omega)])).1
theorem lop_su {s : List UInt8} {cl : Nat → PF} (h : ∀ j, Su s (cl j)) (least : Nat) : ∀ (n : Nat) (x : Ex') (a b : Nat), G s (.inl x) a b → (lopF s cl least n x (at0 b)).2.e = 0 → ∃ c, (lopF s cl least n x (at0 b)).2 = at0 c ∧ G s (.inl (lopF s cl least n x (at0 b)).1) a c
 | 0, x, a, b, hg, he => ⟨b, rfl, hg⟩
 | n + 1, x, a, b, hg, he => by
  rw [lopF] at he ⊢
  split at he
  ·rename_i hb
   rw [if_pos hb]
   exact ⟨b, rfl, hg⟩
  ·rename_i hb
   rw [if_neg hb]
   have hb1 : biF (pkF s (at0 b)) ≠ 0 := fun e => hb (.inl e)
   obtain ⟨a1, c, e1, e2, e3⟩ := nx_su (s := s) (p := at0 b) (by intro h0; apply hb1; unfold biF; rw [if_neg (by omega)])
   have := at_inj e1; subst this
   rw [e2] at he ⊢
   have he2 := lop_er h least _ _ _ he
   obtain ⟨c1, d, f1, f2, f3⟩ := h _ _ he2
   have := at_inj f1; subst this
   rw [f2] at he ⊢
   exact lop_su h least n _ a d (.bin hg e3 hb1 f3) he
theorem cli_su {s : List UInt8} {fu : PF} (h : Su s fu) : ∀ f j, Su s (cliF s fu f j)
 | 0, j => h
 | f + 1, j => by
  intro p he
  change (lopF s (cliF s fu f) j (fuelR s) (fu p).1 (fu p).2).2.e = 0 at he
  show ∃ a b, p = at0 a ∧ (lopF s (cliF s fu f) j (fuelR s) (fu p).1 (fu p).2).2 = at0 b ∧ G s (.inl (lopF s (cliF s fu f) j (fuelR s) (fu p).1 (fu p).2).1) a b
  have he2 := lop_er (fun i => cli_su h f i) j _ _ _ he
  obtain ⟨a, b, e1, e2, e3⟩ := h p he2
  rw [e2] at he ⊢
  obtain ⟨c, g1, g2⟩ := lop_su (fun i => cli_su h f i) j _ _ a b e3 he
  exact ⟨a, c, e1, g1, g2⟩
theorem pri_su {s : List UInt8} {fx : PF} (h : Su s fx) : Su s (priF s fx) := by
 intro p he
 unfold priF at he ⊢
 have hq : (nxF s p).2.e = 0 := by
  unfold priT at he
  split at he
  ·exact he
  ·rename_i h0; exact Decidable.of_not_not h0
 obtain ⟨a, b, e1, e2, e3⟩ := nx_su2 hq
 generalize (nxF s p).1 = t at *
 generalize (nxF s p).2 = q at *
 subst e2
 refine ⟨a, ?_⟩
 have key : ∃ c, (priT s fx t (at0 b)).2 = at0 c ∧ G s (.inl (priT s fx t (at0 b)).1) a c := by
  unfold priT at he ⊢
  rw [if_neg (by simp [hq])] at he ⊢
  by_cases h4 : t.k = 4
  ·rw [if_pos h4] at he ⊢; exact ⟨b, rfl, .lit e3 h4⟩
  rw [if_neg h4] at he ⊢
  by_cases h1 : t.k = 1
  ·rw [if_pos h1] at he ⊢
   unfold objF at he ⊢
   by_cases hb : myB s [40] (at0 b) = true
   ·rw [if_pos hb] at he ⊢
    obtain ⟨b1, c, f1, f2, f3⟩ := my_su hb
    have := at_inj f1; subst this
    rw [f2] at he ⊢
    unfold callE rsF at he ⊢
    simp only [] at he ⊢
    obtain ⟨x1, y1, g1, g2, g3⟩ := tk_su he
    have hr0 : (restF s fx (fuelR s) [(fx (at0 c)).1] (fx (at0 c)).2).2.e = 0 := by rw [g1]; rfl
    obtain ⟨c1, d, i1, i2, i3⟩ := h _ (rest_er h _ _ _ hr0)
    have := at_inj i1; subst this
    rw [i2] at hr0 g1 ⊢
    obtain ⟨f, ys, j1, j2⟩ := rest_su h _ _ _ hr0
    rw [j1] at g1 ⊢
    have := at_inj g1; subst this
    rw [i2, j1] at g2
    exact ⟨y1, g2, .call e3 h1 f3 i3 j2 g3⟩
   ·rw [if_neg hb] at he ⊢
    by_cases hb : myB s [91] (at0 b) = true
    ·rw [if_pos hb] at he ⊢
     obtain ⟨b1, c, f1, f2, f3⟩ := my_su hb
     have := at_inj f1; subst this
     rw [f2] at he ⊢
     have hr0 : (fx (at0 c)).2.e = 0 := by
      unfold selE at he
      split at he
      ·rename_i hq; obtain ⟨_, _, w, _⟩ := my_su hq; rw [w]; rfl
      split at he
      ·rename_i hq; obtain ⟨_, _, w, _⟩ := my_su hq; rw [w]; rfl
      unfold sel1 at he
      split at he
      ·rename_i hq; obtain ⟨_, _, w, _⟩ := my_su hq
       obtain ⟨_, _, w2, _⟩ := tk_su (s := s) (x := [93]) (p := (fx (at0 c)).2) (by rw [w]; rfl)
       rw [w2]; rfl
      ·obtain ⟨_, _, w2, _⟩ := tk_su he
       rw [w2]; rfl
     obtain ⟨c1, d, i1, i2, i3⟩ := h _ hr0
     have := at_inj i1; subst this
     unfold selE at he ⊢
     rw [i2] at he ⊢
     by_cases hb : myB s [58] (at0 d) = true
     ·rw [if_pos hb] at he ⊢
      obtain ⟨b1, d2, f1, f2, f4⟩ := my_su hb
      have := at_inj f1; subst this
      rw [f2] at he ⊢
      unfold two at he ⊢
      simp only [] at he ⊢
      obtain ⟨x1, y1, g1, g2, g3⟩ := tk_su he
      obtain ⟨c2, d3, k1, k2, k3⟩ := h (at0 d2) (by rw [g1]; rfl)
      have := at_inj k1; subst this
      rw [k2] at g1
      have := at_inj g1; subst this
      exact ⟨y1, g2, .part e3 h1 f3 i3 f4 k3 g3⟩
     ·rw [if_neg hb] at he ⊢
      by_cases hb : myB s [43, 58] (at0 d) = true
      ·rw [if_pos hb] at he ⊢
       obtain ⟨b1, d2, f1, f2, f4⟩ := my_su hb
       have := at_inj f1; subst this
       rw [f2] at he ⊢
       unfold two at he ⊢
       simp only [] at he ⊢
       obtain ⟨x1, y1, g1, g2, g3⟩ := tk_su he
       obtain ⟨c2, d3, k1, k2, k3⟩ := h (at0 d2) (by rw [g1]; rfl)
       have := at_inj k1; subst this
       rw [k2] at g1
       have := at_inj g1; subst this
       exact ⟨y1, g2, .slice e3 h1 f3 i3 f4 k3 g3⟩
      ·rw [if_neg hb] at he ⊢
       unfold sel1 at he ⊢
       by_cases hb : myB s [91] (tkF s [93] (at0 d)) = true
       ·rw [if_pos hb] at he ⊢
        obtain ⟨b1, d2, f1, f2, f4⟩ := my_su hb
        obtain ⟨x0, y0, m1, m2, m3⟩ := tk_su (s := s) (x := [93]) (p := at0 d) (by rw [f1]; rfl)
        have := at_inj m1; subst this
        rw [m2] at f1
        have := at_inj f1; subst this
        rw [f2] at he ⊢
        unfold two at he ⊢
        simp only [] at he ⊢
        obtain ⟨x1, y1, g1, g2, g3⟩ := tk_su he
        obtain ⟨c2, d3, k1, k2, k3⟩ := h (at0 d2) (by rw [g1]; rfl)
        have := at_inj k1; subst this
        rw [k2] at g1
        have := at_inj g1; subst this
        exact ⟨y1, g2, .sel2 e3 h1 f3 i3 m3 f4 k3 g3⟩
       ·rw [if_neg hb] at he ⊢
        obtain ⟨x0, y0, m1, m2, m3⟩ := tk_su he
        have := at_inj m1; subst this
        exact ⟨y0, m2, .sel1 e3 h1 f3 i3 m3⟩
    ·rw [if_neg hb] at he ⊢; exact ⟨b, rfl, .ref e3 h1⟩
  rw [if_neg h1] at he ⊢
  by_cases h3 : t.k = 3
  ·rw [if_pos h3] at he ⊢
   unfold sysF at he ⊢
   by_cases hn : t.tx = sTime
   ·rw [if_pos hn] at he ⊢; exact ⟨b, rfl, .sys0 e3 h3 hn⟩
   rw [if_neg hn] at he ⊢
   by_cases hn2 : t.tx = sSig ∨ t.tx = sUns
   ·rw [if_pos hn2] at he ⊢
    simp only [] at he ⊢
    obtain ⟨x1, y1, g1, g2, g3⟩ := tk_su he
    obtain ⟨c2, d3, k1, k2, k3⟩ := h (tkF s [40] (at0 b)) (by rw [g1]; rfl)
    obtain ⟨x0, y0, m1, m2, m3⟩ := tk_su (s := s) (x := [40]) (p := at0 b) (by rw [k1]; rfl)
    have := at_inj m1; subst this
    rw [m2] at k1
    have := at_inj k1; subst this
    rw [k2] at g1
    have := at_inj g1; subst this
    exact ⟨y1, g2, .sys1 e3 h3 hn2 m3 k3 g3⟩
   ·rw [if_neg hn2] at he; cases he
  rw [if_neg h3] at he ⊢
  by_cases h6 : t.k = 6 ∧ t.tx = [40]
  ·rw [if_pos h6] at he ⊢
   simp only [] at he ⊢
   obtain ⟨x1, y1, g1, g2, g3⟩ := tk_su he
   obtain ⟨c2, d3, k1, k2, k3⟩ := h (at0 b) (by rw [g1]; rfl)
   have := at_inj k1; subst this
   rw [k2] at g1
   have := at_inj g1; subst this
   exact ⟨y1, g2, .par ⟨t, e3, by unfold hasT; simp [h6.1, h6.2]⟩ k3 g3⟩
  rw [if_neg h6] at he ⊢
  by_cases h7 : t.k = 6 ∧ t.tx = [123]
  ·rw [if_pos h7] at he ⊢
   have ho : Pn s a [123] b := ⟨t, e3, by unfold hasT; simp [h7.1, h7.2]⟩
   unfold braF bra at he ⊢
   by_cases hb : myB s [123] (fx (at0 b)).2 = true
   ·rw [if_pos hb] at he ⊢
    obtain ⟨b1, d2, f1, f2, f4⟩ := my_su hb
    obtain ⟨c2, d3, k1, k2, k3⟩ := h (at0 b) (by rw [f1]; rfl)
    have := at_inj k1; subst this
    rw [k2] at f1
    have := at_inj f1; subst this
    rw [f2] at he ⊢
    unfold bra1 rsF at he ⊢
    simp only [] at he ⊢
    obtain ⟨x1, y1, g1, g2, g3⟩ := tk_su he
    obtain ⟨x2, y2, l1, l2, l3⟩ := tk_su (s := s) (x := [125]) (p := (restF s fx (fuelR s) [(fx (at0 b)).1, (fx (at0 d2)).1] (fx (at0 d2)).2).2) (by rw [g1]; rfl)
    rw [l2] at g1
    have := at_inj g1; subst this
    have hr0 : (restF s fx (fuelR s) [(fx (at0 b)).1, (fx (at0 d2)).1] (fx (at0 d2)).2).2.e = 0 := by rw [l1]; rfl
    obtain ⟨c1, d, i1, i2, i3⟩ := h _ (rest_er h _ _ _ hr0)
    have := at_inj i1; subst this
    rw [i2] at hr0 l1 g2 ⊢
    obtain ⟨f, ys, j1, j2⟩ := rest_su h _ _ _ hr0
    rw [j1] at l1 g2 ⊢
    have := at_inj l1; subst this
    exact ⟨y1, g2, .rep ho k3 f4 i3 j2 l3 g3⟩
   ·rw [if_neg hb] at he ⊢
    unfold bra2 rsF at he ⊢
    simp only [] at he ⊢
    obtain ⟨x1, y1, g1, g2, g3⟩ := tk_su he
    have hr0 : (restF s fx (fuelR s) [(fx (at0 b)).1] (fx (at0 b)).2).2.e = 0 := by rw [g1]; rfl
    obtain ⟨c1, d, i1, i2, i3⟩ := h _ (rest_er h _ _ _ hr0)
    have := at_inj i1; subst this
    rw [i2] at hr0 g1 g2 ⊢
    obtain ⟨f, ys, j1, j2⟩ := rest_su h _ _ _ hr0
    rw [j1] at g1 g2 ⊢
    have := at_inj g1; subst this
    exact ⟨y1, g2, .cat ho i3 j2 g3⟩
  ·rw [if_neg h7] at he; cases he
 obtain ⟨c, k1, k2⟩ := key
 exact ⟨c, e1, k1, k2⟩
theorem fu_su {s : List UInt8} {fx fu : PF} (h : Su s fx) (h2 : Su s fu) : Su s (fuS s fx fu) := by
 intro p he
 unfold fuS at he ⊢
 by_cases h0 : p.e = 0
 ·rw [if_pos h0] at he ⊢
  unfold unaF at he ⊢
  by_cases hu : unF (pkF s p) ≠ 0
  ·rw [if_pos hu] at he ⊢
   obtain ⟨a, b, e1, e2, e3⟩ := nx_su (s := s) (p := p) (by intro h0; apply hu; unfold unF; rw [if_neg (by omega)])
   rw [e2] at he ⊢
   obtain ⟨c, d, f1, f2, f3⟩ := h2 (at0 b) he
   have := at_inj f1; subst this
   exact ⟨a, d, e1, f2, .un e3 hu f3⟩
  ·rw [if_neg hu] at he ⊢
   exact pri_su h p he
 ·rw [if_neg h0] at he; exact absurd he h0
theorem fx_su {s : List UInt8} {fx fu : PF} (h : Su s fx) (h2 : Su s fu) : Su s (fxS s fx fu) := by
 intro p he
 unfold fxS at he ⊢
 by_cases h0 : p.e = 0
 ·rw [if_pos h0] at he ⊢
  unfold exF at he ⊢
  have hc := cli_su (fu_su h h2) 12 1 p
  generalize cliF s (fuS s fx fu) 12 1 p = r at *
  unfold condF at he ⊢
  by_cases hb : myB s [63] r.2 = true
  ·rw [if_pos hb] at he ⊢
   obtain ⟨b, c, f1, f2, f3⟩ := my_su hb
   obtain ⟨a, b1, e1, e2, e3⟩ := hc (by rw [f1]; rfl)
   rw [f1] at e2
   have := at_inj e2; subst this
   rw [f2] at he ⊢
   unfold cond1 cond2 at he ⊢
   simp only [] at he ⊢
   obtain ⟨c2, d3, k1, k2, k3⟩ := h _ he
   obtain ⟨x0, y0, m1, m2, m3⟩ := tk_su (s := s) (x := [58]) (p := (fx (at0 c)).2) (by rw [k1]; rfl)
   rw [m2] at k1
   have := at_inj k1; subst this
   obtain ⟨c3, d4, l1, l2, l3⟩ := h (at0 c) (by rw [m1]; rfl)
   have := at_inj l1; subst this
   rw [l2] at m1
   have := at_inj m1; subst this
   exact ⟨a, d3, e1, k2, .cond e3 f3 l3 m3 k3⟩
  ·rw [if_neg hb] at he ⊢
   exact hc he
 ·rw [if_neg h0] at he; exact absurd he h0
theorem lv_su (s : List UInt8) : ∀ K, Su s (lvF s K).1 ∧ Su s (lvF s K).2
 | 0 => by
  have : ∀ p, ¬ (entF 0 p).e = 0 := by
   intro p h
   unfold entF at h
   split at h
   ·cases h
   ·rename_i h1; exact h1 ⟨h, rfl⟩
  exact ⟨fun p he => absurd he (this p), fun p he => absurd he (this p)⟩
 | K + 1 => ⟨fx_su (lv_su s K).1 (lv_su s K).2, fu_su (lv_su s K).1 (lv_su s K).2⟩
theorem at0_e (a : Nat) : (at0 a).e = 0 := rfl
theorem fuel_s (s : List UInt8) : fuelR s = (s.length + 2) + 1 := rfl
theorem una_pri {s : List UInt8} {K a b : Nat} {t : Tk} (h : Sees s a t b) (hu : unF t = 0) : (lvF s (K + 1)).2 (at0 a) = priT s (lvF s K).1 t (at0 b) := by
 rw [lvF_2]
 unfold fuS unaF priF
 rw [if_pos (at0_e a), sees_pk h, if_neg (by simp [hu]), sees_nx h]
theorem una_un {s : List UInt8} {K a b : Nat} {t : Tk} (h : Sees s a t b) (hu : unF t ≠ 0) : (lvF s (K + 1)).2 (at0 a) = un1 (unF t) ((lvF s K).2 (at0 b)) := by
 rw [lvF_2]
 unfold fuS unaF
 rw [if_pos (at0_e a), sees_pk h, if_pos hu, sees_nx h]
def EndT (t : Tk) : Prop := biF t = 0 ∧ hasT t [63] = false
theorem lop_end {s : List UInt8} {cl : Nat → PF} {least n : Nat} {x : Ex'} {q : Nat} (h : EndT (pkF s (at0 q))) : lopF s cl least (n + 1) x (at0 q) = (x, at0 q) := by
 rw [lopF, if_pos (.inl h.1)]
theorem cond_end {s : List UInt8} {fx : PF} {x : Ex'} {q : Nat} (h : EndT (pkF s (at0 q))) : condF s fx (x, at0 q) = (x, at0 q) := by
 unfold condF
 simp only [my_eq, h.2, Bool.false_eq_true, if_false]
theorem cli_s (s : List UInt8) (fu : PF) (f least : Nat) (p : PS) : cliF s fu (f + 1) least p = lopF s (cliF s fu f) least (fuelR s) (fu p).1 (fu p).2 := rfl
theorem ex_of {s : List UInt8} {K a q : Nat} {x : Ex'} (hu : (lvF s (K + 1)).2 (at0 a) = (x, at0 q)) (h : EndT (pkF s (at0 q))) : (lvF s (K + 1)).1 (at0 a) = (x, at0 q) := by
 rw [lvF_1]
 unfold fxS exF
 rw [if_pos (at0_e a), ← lvF_2, cli_s, hu]
 simp only [fuel_s, lop_end h, cond_end h]
theorem ex_bin {s : List UInt8} {K a q1 q2 q3 : Nat} {t : Tk} {x y : Ex'} (hx : (lvF s (K + 1)).2 (at0 a) = (x, at0 q1)) (ht : Sees s q1 t q2) (ho : biF t ≠ 0) (hl : 1 ≤ levelF (biF t)) (hy : (lvF s (K + 1)).2 (at0 q2) = (y, at0 q3)) (h : EndT (pkF s (at0 q3))) :
  (lvF s (K + 1)).1 (at0 a) = (mkE (biF t) [] [x, y], at0 q3) := by
 rw [lvF_1]
 unfold fxS exF
 rw [if_pos (at0_e a), ← lvF_2, cli_s, hx]
 simp only [fuel_s]
 rw [lopF, sees_pk ht, if_neg (by omega), sees_nx ht]
 simp only []
 rw [cli_s, hy]
 simp only [fuel_s, lop_end h, cond_end h]
theorem ex_cond {s : List UInt8} {K a q1 q2 q3 q4 q5 : Nat} {x y z : Ex'} (hx : (lvF s (K + 1)).2 (at0 a) = (x, at0 q1)) (h1 : Sees s q1 (pT [63]) q2) (hy : (lvF s K).1 (at0 q2) = (y, at0 q3)) (h2 : Sees s q3 (pT [58]) q4) (hz : (lvF s K).1 (at0 q4) = (z, at0 q5)) :
  (lvF s (K + 1)).1 (at0 a) = (mkE 10 [] [x, y, z], at0 q5) := by
 rw [lvF_1]
 unfold fxS exF
 rw [if_pos (at0_e a), ← lvF_2, cli_s, hx]
 simp only [fuel_s]
 rw [lopF, sees_pk h1, if_pos (.inl (by decide))]
 unfold condF
 simp only [sees_my h1, show hasT (pT [63]) [63] = true by decide, if_true, sees_tk h1 (show hasT (pT [63]) [63] = true by decide), hy]
 unfold cond1 cond2
 simp only [sees_tk h2 (show hasT (pT [58]) [58] = true by decide), hz]
theorem pri_num {s : List UInt8} {fx : PF} {b : Nat} {bn sg : Bool} {l : List Nat} : priT s fx ⟨4, [], bn, l, sg⟩ (at0 b) = (litE bn l sg, at0 b) := by
 unfold priT
 rw [if_neg (by simp [at0]), if_pos rfl]
theorem pri_id {s : List UInt8} {fx : PF} {b : Nat} {x : List UInt8} : priT s fx ⟨1, x, true, [], false⟩ (at0 b) = objF s fx x (at0 b) := by
 unfold priT
 rw [if_neg (by simp [at0]), if_neg (by simp), if_pos rfl]
theorem pri_sys {s : List UInt8} {fx : PF} {b : Nat} {x : List UInt8} : priT s fx ⟨3, x, true, [], false⟩ (at0 b) = sysF s fx x (at0 b) := by
 unfold priT
 rw [if_neg (by simp [at0]), if_neg (by simp), if_neg (by simp), if_pos rfl]
theorem pri_par {s : List UInt8} {fx : PF} {b : Nat} : priT s fx (pT [40]) (at0 b) = ((fx (at0 b)).1, tkF s [41] (fx (at0 b)).2) := by
 unfold priT pT
 rw [if_neg (by simp [at0]), if_neg (by simp), if_neg (by simp), if_neg (by simp), if_pos (by simp)]
theorem pri_br {s : List UInt8} {fx : PF} {b : Nat} : priT s fx (pT [123]) (at0 b) = braF s fx (at0 b) := by
 unfold priT pT
 rw [if_neg (by simp [at0]), if_neg (by simp), if_neg (by simp), if_neg (by simp), if_neg (by simp), if_pos (by simp)]
def NoOpen (t : Tk) : Prop := hasT t [40] = false ∧ hasT t [91] = false
theorem rest_end {s : List UInt8} {fx : PF} {n : Nat} {l : List Ex'} {q : Nat} (h : hasT (pkF s (at0 q)) [44] = false) : restF s fx (n + 1) l (at0 q) = (l, at0 q) := by
 rw [restF, my_eq, h, if_neg (by decide)]
theorem rest_step {s : List UInt8} {fx : PF} {n : Nat} {l : List Ex'} {q q2 q3 : Nat} {x : Ex'} (h : Sees s q (pT [44]) q2) (hx : fx (at0 q2) = (x, at0 q3)) : restF s fx (n + 1) l (at0 q) = restF s fx n (l ++ [x]) (at0 q3) := by
 rw [restF, sees_my h, show hasT (pT [44]) [44] = true by decide, if_pos rfl, sees_tk h (show hasT (pT [44]) [44] = true by decide), hx]
def moreT : List Ex' → List UInt8
 | [] => []
 | x :: xs => 44 :: 32 :: (txt x ++ moreT xs)
theorem lst_more : ∀ xs : List Ex', (lstP (xs.map pc) false).flatten = moreT xs
 | [] => rfl
 | x :: xs => by
  simp only [List.map_cons, lstP, List.flatten_cons, List.flatten_append, moreT, lst_more xs, txt]
  rfl
theorem lst_txt (x : Ex') (xs : List Ex') : (lstP ((x :: xs).map pc) true).flatten = txt x ++ moreT xs := by
 simp only [List.map_cons, lstP, List.flatten_append, lst_more xs, txt]
theorem txt_eq (x : Ex') : txt x = (node x.op x.name x.bits x.vs (x.args.map pc)).flatten := by unfold txt; rw [pc_eq]
theorem t_lit {x : Ex'} (h : x.op = 1) : txt x = (numF x.bits x.vs).1 := by rw [txt_eq, h]; simp [node]
theorem t_ref {x : Ex'} (h : x.op = 2) : txt x = x.name := by rw [txt_eq, h]; simp [node]
theorem t_sel1 {x : Ex'} {y : Ex'} (h : x.op = 3) (ha : x.args = [y]) : txt x = x.name ++ 91 :: (txt y ++ [93]) := by rw [txt_eq, h, ha]; simp [node, txt]
theorem t_sel2 {x : Ex'} {y z : Ex'} (h : x.op = 3) (ha : x.args = [y, z]) : txt x = x.name ++ 91 :: (txt y ++ 93 :: 91 :: (txt z ++ [93])) := by rw [txt_eq, h, ha]; simp [node, txt]
theorem t_part {x : Ex'} {y z : Ex'} (h : x.op = 4) (ha : x.args = [y, z]) : txt x = x.name ++ 91 :: (txt y ++ 58 :: (txt z ++ [93])) := by rw [txt_eq, h, ha]; simp [node, arnd, txt]
theorem t_slice {x : Ex'} {y z : Ex'} (h : x.op = 5) (ha : x.args = [y, z]) : txt x = x.name ++ 91 :: (txt y ++ 43 :: 58 :: (txt z ++ [93])) := by rw [txt_eq, h, ha]; simp [node, arnd, txt]
theorem t_cat {x : Ex'} {y : Ex'} {ys : List Ex'} (h : x.op = 6) (ha : x.args = y :: ys) : txt x = 123 :: (txt y ++ (moreT ys ++ [125])) := by
 rw [txt_eq, h, ha]
 have := lst_txt y ys
 simp only [List.map_cons] at this
 simp [node, this]
theorem t_rep {x : Ex'} {n y : Ex'} {ys : List Ex'} (h : x.op = 7) (ha : x.args = n :: y :: ys) : txt x = 123 :: (txt n ++ 123 :: (txt y ++ (moreT ys ++ [125, 125]))) := by
 rw [txt_eq, h, ha]
 have := lst_txt y ys
 simp only [List.map_cons] at this
 simp [node, arnd, this, txt]
theorem t_call {x : Ex'} {y : Ex'} {ys : List Ex'} (h : x.op = 8) (ha : x.args = y :: ys) : txt x = x.name ++ 40 :: (txt y ++ (moreT ys ++ [41])) := by
 rw [txt_eq, h, ha]
 have := lst_txt y ys
 simp only [List.map_cons] at this
 simp [node, this]
theorem t_sys0 {x : Ex'} (h : x.op = 9) (ha : x.args = []) : txt x = x.name := by rw [txt_eq, h, ha]; simp [node]
theorem t_sys1 {x y : Ex'} (h : x.op = 9) (ha : x.args = [y]) : txt x = x.name ++ 40 :: (txt y ++ [41]) := by rw [txt_eq, h, ha]; simp [node, arnd, txt]
theorem t_cond {x a b c : Ex'} (h : x.op = 10) (ha : x.args = [a, b, c]) : txt x = 40 :: (txt a ++ 32 :: 63 :: 32 :: (txt b ++ 32 :: 58 :: 32 :: (txt c ++ [41]))) := by rw [txt_eq, h, ha]; simp [node, arnd, txt]
theorem t_un {x y : Ex'} (h1 : 11 ≤ x.op) (h2 : x.op < 21) (ha : x.args = [y]) : txt x = 40 :: (unSym.getD (x.op - 11) [] ++ (txt y ++ [41])) := by
 rw [txt_eq, ha]
 unfold node
 rw [if_neg (by omega), if_neg (by omega), if_neg (by omega), if_neg (by omega), if_neg (by omega), if_neg (by omega), if_neg (by omega), if_neg (by omega), if_neg (by omega), if_neg (by omega), if_pos h2]
 simp [arnd, txt]
theorem t_bin {x y z : Ex'} (h1 : 21 ≤ x.op) (ha : x.args = [y, z]) : txt x = 40 :: (txt y ++ 32 :: (biSym.getD (x.op - 21) [] ++ 32 :: (txt z ++ [41]))) := by
 rw [txt_eq, ha]
 unfold node
 rw [if_neg (by omega), if_neg (by omega), if_neg (by omega), if_neg (by omega), if_neg (by omega), if_neg (by omega), if_neg (by omega), if_neg (by omega), if_neg (by omega), if_neg (by omega), if_neg (by omega)]
 simp [arnd, txt]
end Go.TM.R8
