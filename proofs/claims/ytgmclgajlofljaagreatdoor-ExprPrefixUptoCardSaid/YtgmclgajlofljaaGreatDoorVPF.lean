/- Expressions, plain: brackets balance; a cut text is rejected. -/
import Derived.Test.YtgmclgajlofljaaGreatDoorV8X
set_option linter.all false
namespace Go.TM.R8
open Go Go.TM Go.Proofs
def val (c : UInt8) : Int := if c = 40 ∨ c = 123 then 1 else if c = 41 ∨ c = 125 then -1 else 0
def cnt : List UInt8 → Int
 | [] => 0
 | c :: r => val c + cnt r
theorem cnt_app : ∀ a b : List UInt8, cnt (a ++ b) = cnt a + cnt b
 | [], b => by simp [cnt]
 | c :: a, b => by rw [List.cons_append, cnt, cnt, cnt_app a b]; omega
theorem cnt_z : ∀ a : List UInt8, (∀ c ∈ a, val c = 0) → cnt a = 0
 | [], _ => rfl
 | c :: a, h => by rw [cnt, h c (by simp), cnt_z a fun d hd => h d (List.mem_cons_of_mem _ hd)]; rfl
def Bal (l : List UInt8) : Prop := cnt l = 0 ∧ ∀ k, 0 ≤ cnt (l.take k)
theorem bal_z {l : List UInt8} (h : ∀ c ∈ l, val c = 0) : Bal l := ⟨cnt_z l h, fun k => by rw [cnt_z _ fun c hc => h c (List.mem_of_mem_take hc)]; omega⟩
theorem bal_app {a b : List UInt8} (ha : Bal a) (hb : Bal b) : Bal (a ++ b) := by
 refine ⟨by rw [cnt_app, ha.1, hb.1]; rfl, fun k => ?_⟩
 rw [List.take_append, cnt_app]
 have := ha.2 k
 have := hb.2 (k - a.length)
 omega
theorem bal_br {c d : UInt8} {l : List UInt8} (hc : val c = 1) (hd : val d = -1) (h : Bal l) : Bal (c :: (l ++ [d])) ∧ ∀ k, 0 < k → k < (c :: (l ++ [d])).length → 1 ≤ cnt ((c :: (l ++ [d])).take k) := by
 have key : ∀ k, k ≤ l.length → 0 ≤ cnt ((l ++ [d]).take k) := fun k hk => by rw [List.take_append_of_le_length hk]; exact h.2 k
 have tot : cnt (c :: (l ++ [d])) = 0 := by rw [cnt, cnt_app, h.1, hc]; show (1 : Int) + (0 + (val d + 0)) = 0; rw [hd]; rfl
 have str : ∀ k, 0 < k → k < (c :: (l ++ [d])).length → 1 ≤ cnt ((c :: (l ++ [d])).take k) := by
  intro k hk hk2
  obtain ⟨j, rfl⟩ : ∃ j, k = j + 1 := ⟨k - 1, by omega⟩
  rw [List.take_succ_cons, cnt, hc]
  have := key j (by simp at hk2; omega)
  omega
 refine ⟨⟨tot, fun k => ?_⟩, str⟩
 by_cases h0 : k = 0
 ·subst h0; simp [cnt]
 ·by_cases h1 : k < (c :: (l ++ [d])).length
  ·have := str k (by omega) h1; omega
  ·rw [List.take_of_length_le (by omega), tot]; omega
def Sl (l : List UInt8) : Prop := ∀ i : Nat, l[i]? = some 47 → l[i + 1]? = some 32
theorem sl_no {l : List UInt8} (h : ∀ c ∈ l, c ≠ 47) : Sl l := fun i hi => absurd rfl (h 47 (List.mem_of_getElem? hi))
theorem sl_app {a b : List UInt8} (ha : Sl a) (hb : Sl b) : Sl (a ++ b) := by
 intro i hi
 by_cases h : i < a.length
 ·rw [List.getElem?_append_left h] at hi
  have := ha i hi
  have h2 : i + 1 < a.length := by
   rcases Nat.lt_or_ge (i + 1) a.length with h | h
   ·exact h
   ·rw [List.getElem?_eq_none h] at this; cases this
  rw [List.getElem?_append_left h2]; exact this
 ·rw [List.getElem?_append_right (by omega)] at hi ⊢
  rw [show i + 1 - a.length = i - a.length + 1 by omega]
  exact hb _ hi
structure BS2 (l : List UInt8) : Prop where
 b : Bal l
 s : Sl l
theorem bs_app {a b : List UInt8} (ha : BS2 a) (hb : BS2 b) : BS2 (a ++ b) := ⟨bal_app ha.b hb.b, sl_app ha.s hb.s⟩
def pl (c : UInt8) : Bool := decide (val c = 0) && decide (c ≠ 47)
theorem bs_pl {l : List UInt8} (h : l.all pl = true) : BS2 l := by
 rw [List.all_eq_true] at h
 constructor
 ·exact bal_z fun c hc => by have := h c hc; unfold pl at this; simp only [Bool.and_eq_true, decide_eq_true_eq] at this; exact this.1
 ·exact sl_no fun c hc => by have := h c hc; unfold pl at this; simp only [Bool.and_eq_true, decide_eq_true_eq] at this; exact this.2
theorem bs_cons {c : UInt8} {l : List UInt8} (h : pl c = true) (hl : BS2 l) : BS2 (c :: l) := bs_app (a := [c]) (bs_pl (by simp [h])) hl
def InBr (t : List UInt8) : Prop := ∃ c d l, t = c :: (l ++ [d]) ∧ val c = 1 ∧ val d = -1 ∧ BS2 l
theorem br_bs {t : List UInt8} (h : InBr t) : BS2 t := by
 obtain ⟨c, d, l, rfl, hc, hd, hl⟩ := h
 refine ⟨(bal_br hc hd hl.b).1, sl_app (a := [c]) (sl_no ?_) (sl_app hl.s (sl_no ?_))⟩
 ·intro e he; simp at he; subst he; rintro rfl; exact absurd hc (by decide)
 ·intro e he; simp at he; subst he; rintro rfl; exact absurd hd (by decide)
theorem br_mk {c d : UInt8} {l : List UInt8} (hc : val c = 1) (hd : val d = -1) (hl : BS2 l) : InBr (c :: (l ++ [d])) := ⟨c, d, l, rfl, hc, hd, hl⟩
theorem more_bs : ∀ xs : List Ex', (∀ y ∈ xs, BS2 (txt y)) → BS2 (moreT xs)
 | [], _ => bs_pl rfl
 | x :: xs, h => bs_cons (by decide) (bs_cons (by decide) (bs_app (h x (by simp)) (more_bs xs fun y hy => h y (List.mem_cons_of_mem _ hy))))
theorem word_pl {c : UInt8} (h : (letter c.toNat || (digit c.toNat || decide (c.toNat = 36))) = true) : pl c = true := by
 unfold pl
 unfold letter digit at h
 simp only [Bool.or_eq_true, Bool.and_eq_true, decide_eq_true_eq] at h ⊢
 have hn : ∀ d : UInt8, c = d → c.toNat = d.toNat := fun d e => by rw [e]
 constructor
 ·unfold val
  rw [if_neg, if_neg]
  ·rintro (e | e) <;> have := hn _ e <;> simp at this <;> omega
  ·rintro (e | e) <;> have := hn _ e <;> simp at this <;> omega
 ·intro e; have := hn _ e; simp at this; omega
theorem nameEnd_sat (s : List UInt8) (a e : Nat) : ∀ j, e ≤ j → j < nameEnd s a e → (letter (B s j) || (digit (B s j) || decide (B s j = 36))) = true := by
 fun_induction nameEnd s a e with
 | case1 e h1 h2 ih =>
  intro j hj hj2
  by_cases hje : j = e
  ·subst hje
   simp only [Bool.or_eq_true, Bool.and_eq_true] at h2 ⊢
   rcases h2 with h2 | h2
   ·exact .inl h2
   ·exact .inr h2.2
  ·exact ih j (by omega) hj2
 | case2 e h1 h2 => intro j hj hj2; omega
 | case3 e h1 => intro j hj hj2; omega
theorem id_pl {x : List UInt8} (h : ident x = true) : x.all pl = true := by
 unfold ident at h
 rw [Bool.and_eq_true] at h
 obtain ⟨h1, h2⟩ := whole_eq h.1
 rw [List.all_eq_true]
 intro c hc
 obtain ⟨j, hj, rfl⟩ := List.mem_iff_getElem.1 hc
 have := nameEnd_sat x 0 0 j (by omega) (by omega)
 rw [B_get x j hj] at this
 exact word_pl this
theorem num_pl {l : List Nat} (sg : Bool) (h : chk l = 0) : (numF l sg).1.all pl = true := by
 have dgp : ∀ b : UInt8, dg b = true → pl b = true := by
  intro b hb
  apply word_pl
  unfold dg at hb
  unfold digit
  simp only [Bool.and_eq_true, decide_eq_true_eq] at hb
  simp [hb]
 have da : ∀ n, (Lib.decDigits n).all pl = true := by
  intro n
  have := dd_all n
  rw [List.all_eq_true] at this ⊢
  exact fun b hb => dgp b (this b hb)
 unfold numF
 rw [if_pos h]
 cases decV l sg with
 | some n => exact da n
 | none =>
  show (fmtB l sg).all pl = true
  unfold fmtB
  rw [List.all_append, da, Bool.true_and, List.all_cons, dgB_dL]
  have : (dL l.reverse).all pl = true := by
   rw [List.all_eq_true]
   intro b hb
   unfold dL at hb
   rw [List.mem_map] at hb
   obtain ⟨x, _, rfl⟩ := hb
   match x with
   | 0 => rfl
   | 1 => rfl
   | 2 => rfl
   | n + 3 => rfl
  cases sg <;> simp [this] <;> decide
theorem sys_pl : ∀ x ∈ [sTime, sSig, sUns], x.all pl = true := by decide
theorem un_pl : ∀ o, o < 21 → (unSym.getD (o - 11) []).all pl = true := by decide
theorem bi_bs : ∀ o, o < 45 → (((biSym.getD (o - 21) []).all pl) || decide (biSym.getD (o - 21) [] = [47])) = true := by decide
theorem txt_bs : ∀ x : Ex', chkN x = 0 → BS2 (txt x) ∧ (∀ c r, txt x = c :: r → (c = 40 ∨ c = 123) → InBr (txt x)) := by
 refine Ex'.ind3 fun x ih hk => ?_
 have ok := ok_of hk
 have hch := fun y hy => (ih y hy (chk_all hk y hy)).1
 have har := ok.ar
 unfold arity at har
 have hwd : ∀ (y z : List UInt8), y.all pl = true → 0 < y.length → BS2 (y ++ z) → BS2 (y ++ z) ∧ (∀ c r, y ++ z = c :: r → (c = 40 ∨ c = 123) → InBr (y ++ z)) := by
  intro y z hy h0 hb
  refine ⟨hb, fun c r he hc => ?_⟩
  cases y with
  | nil => simp at h0
  | cons d y =>
   injection he with h1 _
   subst h1
   rw [List.all_cons, Bool.and_eq_true] at hy
   rcases hc with rfl | rfl
   ·exact absurd hy.1 (by decide)
   ·exact absurd hy.1 (by decide)
 have hbr : InBr (txt x) → BS2 (txt x) ∧ (∀ c r, txt x = c :: r → (c = 40 ∨ c = 123) → InBr (txt x)) := fun h => ⟨br_bs h, fun _ _ _ _ => h⟩
 by_cases h1 : x.op = 1
 ·rw [t_lit h1]
  have h2 := num_pl x.vs (ok.li h1)
  have h3 := (num_rd x.vs (ok.li h1)).1
  have := hwd _ [] h2 h3 (by rw [List.append_nil]; exact bs_pl h2)
  rwa [List.append_nil] at this
 by_cases h2 : x.op = 2
 ·rw [t_ref h2]
  have hi := ok.nm (by rw [h2]; rfl)
  have := hwd _ [] (id_pl hi) (ident_pos hi) (by rw [List.append_nil]; exact bs_pl (id_pl hi))
  rwa [List.append_nil] at this
 by_cases h3 : x.op = 3
 ·have hi := ok.nm (by rw [h3]; rfl)
  rw [h3] at har
  have har : x.args.length = 1 ∨ x.args.length = 2 := by simpa using har
  rcases har with ha | ha
  ·obtain ⟨y, ha⟩ := len1 ha
   rw [t_sel1 h3 ha]
   exact hwd _ _ (id_pl hi) (ident_pos hi) (bs_app (bs_pl (id_pl hi)) (bs_cons (by decide) (bs_app (hch y (by rw [ha]; simp)) (bs_pl (by decide)))))
  ·obtain ⟨y, z, ha⟩ := len2 ha
   rw [t_sel2 h3 ha]
   exact hwd _ _ (id_pl hi) (ident_pos hi) (bs_app (bs_pl (id_pl hi)) (bs_cons (by decide) (bs_app (hch y (by rw [ha]; simp)) (bs_cons (by decide) (bs_cons (by decide) (bs_app (hch z (by rw [ha]; simp)) (bs_pl (by decide))))))))
 by_cases h4 : x.op = 4
 ·have hi := ok.nm (by rw [h4]; rfl)
  rw [h4] at har
  obtain ⟨y, z, ha⟩ := len2 (by simpa using har)
  rw [t_part h4 ha]
  exact hwd _ _ (id_pl hi) (ident_pos hi) (bs_app (bs_pl (id_pl hi)) (bs_cons (by decide) (bs_app (hch y (by rw [ha]; simp)) (bs_cons (by decide) (bs_app (hch z (by rw [ha]; simp)) (bs_pl (by decide)))))))
 by_cases h5 : x.op = 5
 ·have hi := ok.nm (by rw [h5]; rfl)
  rw [h5] at har
  obtain ⟨y, z, ha⟩ := len2 (by simpa using har)
  rw [t_slice h5 ha]
  exact hwd _ _ (id_pl hi) (ident_pos hi) (bs_app (bs_pl (id_pl hi)) (bs_cons (by decide) (bs_app (hch y (by rw [ha]; simp)) (bs_cons (by decide) (bs_cons (by decide) (bs_app (hch z (by rw [ha]; simp)) (bs_pl (by decide))))))))
 by_cases h6 : x.op = 6
 ·rw [h6] at har
  obtain ⟨y, ys, ha⟩ := len1p (by simpa using har)
  apply hbr
  rw [t_cat h6 ha, ← List.append_assoc]
  exact br_mk (by decide) (by decide) (bs_app (hch y (by rw [ha]; simp)) (more_bs ys fun z hz => hch z (by rw [ha]; simp [hz])))
 by_cases h7 : x.op = 7
 ·rw [h7] at har
  obtain ⟨n, y, ys, ha⟩ := len2p (by simpa using har)
  apply hbr
  have e : txt x = 123 :: ((txt n ++ (123 :: ((txt y ++ moreT ys) ++ [125]))) ++ [125]) := by rw [t_rep h7 ha]; simp
  rw [e]
  exact br_mk (by decide) (by decide) (bs_app (hch n (by rw [ha]; simp)) (br_bs (br_mk (by decide) (by decide) (bs_app (hch y (by rw [ha]; simp)) (more_bs ys fun z hz => hch z (by rw [ha]; simp [hz]))))))
 by_cases h8 : x.op = 8
 ·have hi := ok.nm (by rw [h8]; rfl)
  rw [h8] at har
  obtain ⟨y, ys, ha⟩ := len1p (by simpa using har)
  have e : txt x = x.name ++ (40 :: ((txt y ++ moreT ys) ++ [41])) := by rw [t_call h8 ha]; simp
  rw [e]
  exact hwd _ _ (id_pl hi) (ident_pos hi) (bs_app (bs_pl (id_pl hi)) (br_bs (br_mk (by decide) (by decide) (bs_app (hch y (by rw [ha]; simp)) (more_bs ys fun z hz => hch z (by rw [ha]; simp [hz]))))))
 by_cases h9 : x.op = 9
 ·have hsy := ok.sy h9
  have hp := sys_pos hsy
  unfold sysOk at hsy
  simp only [Bool.or_eq_true, Bool.and_eq_true, decide_eq_true_eq] at hsy
  have hnp : x.name.all pl = true := by
   apply sys_pl
   rcases hsy with ⟨e, _⟩ | ⟨e | e, _⟩ <;> rw [e] <;> simp
  rcases hsy with ⟨hn, ha⟩ | ⟨hn, ha⟩
  ·have ha : x.args = [] := by simpa using ha
   rw [t_sys0 h9 ha]
   have := hwd _ [] hnp hp (by rw [List.append_nil]; exact bs_pl hnp)
   rwa [List.append_nil] at this
  ·obtain ⟨y, ha⟩ := len1 ha
   rw [t_sys1 h9 ha]
   exact hwd _ _ hnp hp (bs_app (bs_pl hnp) (br_bs (br_mk (by decide) (by decide) (hch y (by rw [ha]; simp)))))
 by_cases h10 : x.op = 10
 ·rw [h10] at har
  obtain ⟨y, z, w, ha⟩ := len3 (by simpa using har)
  apply hbr
  have e : txt x = 40 :: ((txt y ++ 32 :: 63 :: 32 :: (txt z ++ 32 :: 58 :: 32 :: txt w)) ++ [41]) := by rw [t_cond h10 ha]; simp
  rw [e]
  exact br_mk (by decide) (by decide) (bs_app (hch y (by rw [ha]; simp)) (bs_cons (by decide) (bs_cons (by decide) (bs_cons (by decide) (bs_app (hch z (by rw [ha]; simp)) (bs_cons (by decide) (bs_cons (by decide) (bs_cons (by decide) (hch w (by rw [ha]; simp))))))))))
 have hlo : 11 ≤ x.op := by have := ok.o1; omega
 rw [if_neg (by omega), if_neg (by omega), if_neg (by omega), if_neg (by omega), if_neg (by omega), if_neg (by omega), if_neg (by omega)] at har
 by_cases hun : x.op < 21
 ·rw [if_pos hun] at har
  obtain ⟨y, ha⟩ := len1 (by simpa using har)
  apply hbr
  have e : txt x = 40 :: ((unSym.getD (x.op - 11) [] ++ txt y) ++ [41]) := by rw [t_un hlo hun ha, List.append_assoc]
  rw [e]
  exact br_mk (by decide) (by decide) (bs_app (bs_pl (un_pl x.op hun)) (hch y (by rw [ha]; simp)))
 ·rw [if_neg hun] at har
  obtain ⟨y, z, ha⟩ := len2 (by simpa using har)
  apply hbr
  have e : txt x = 40 :: ((txt y ++ (32 :: (biSym.getD (x.op - 21) [] ++ [32])) ++ txt z) ++ [41]) := by rw [t_bin (by omega) ha]; simp
  rw [e]
  refine br_mk (by decide) (by decide) (bs_app (bs_app (hch y (by rw [ha]; simp)) (bs_cons (by decide) ?_)) (hch z (by rw [ha]; simp)))
  have := bi_bs x.op (by have := ok.o2; omega)
  rw [Bool.or_eq_true] at this
  rcases this with h | h
  ·exact bs_app (bs_pl h) (bs_pl (by decide))
  ·rw [of_decide_eq_true h]
   refine ⟨bal_z (by decide), ?_⟩
   intro i hi
   match i, hi with
   | 0, _ => rfl
   | 1, hi => cases hi
   | n + 2, hi => cases hi
def NCm (s : List UInt8) : Prop := ∀ i, hasPrefix (s.drop i) [47, 47] = false ∧ hasPrefix (s.drop i) [47, 42] = false
theorem sub_add (s : List UInt8) {a b c : Nat} (h1 : a ≤ b) (h2 : b ≤ c) : sub s a c = sub s a b ++ sub s b c := by
 unfold sub
 rw [List.drop_take, List.drop_take, List.drop_take]
 have e : c - a = (b - a) + (c - b) := by omega
 rw [e, List.take_add, List.drop_drop, show a + (b - a) = b by omega]
theorem sub_cnt (s : List UInt8) {a b c : Nat} (h1 : a ≤ b) (h2 : b ≤ c) : cnt (sub s a c) = cnt (sub s a b) + cnt (sub s b c) := by rw [sub_add s h1 h2, cnt_app]
theorem sub_zr {s : List UInt8} {a b : Nat} (h : ∀ j, a ≤ j → j < b → j < s.length → val (UInt8.ofNat (B s j)) = 0) : cnt (sub s a b) = 0 := by
 apply cnt_z
 intro c hc
 unfold sub at hc
 obtain ⟨j, hj, rfl⟩ := List.mem_iff_getElem.1 hc
 simp only [List.length_drop, List.length_take] at hj
 have := h (a + j) (by omega) (by omega) (by omega)
 rw [B_get s (a + j) (by omega)] at this
 simp only [List.getElem_drop, List.getElem_take]
 simpa using this
theorem val_of {n : Nat} (hn : n < 256) (h : n ≠ 40 ∧ n ≠ 123 ∧ n ≠ 41 ∧ n ≠ 125) : val (UInt8.ofNat n) = 0 := by
 have e : (UInt8.ofNat n).toNat = n := by simp; omega
 have hh : ∀ d : UInt8, UInt8.ofNat n = d → n = d.toNat := fun d hd => by rw [← hd, e]
 unfold val
 rw [if_neg, if_neg]
 ·rintro (g | g) <;> have := hh _ g <;> simp at this <;> omega
 ·rintro (g | g) <;> have := hh _ g <;> simp at this <;> omega
theorem skip_z {s : List UInt8} (hs : NCm s) (a : Nat) : (skipF s a).2 = 0 → cnt (sub s a (skipF s a).1) = 0 := by
 fun_induction skipF s a with
 | case1 a h1 h2 ih =>
  intro h
  have hb := (skipF_bnd s (a + 1) (by omega)).1
  rw [sub_cnt s (Nat.le_succ a) hb, ih h]
  have : cnt (sub s a (a + 1)) = 0 := by
   apply sub_zr
   intro j h3 h4 h5
   have : j = a := by omega
   subst this
   apply val_of (B_lt s j)
   unfold sep at h2
   simp only [Bool.or_eq_true, decide_eq_true_eq] at h2
   omega
  show cnt (sub s a (a + 1)) + 0 = 0
  rw [this]; rfl
 | case2 a h1 h2 h3 h4 => rw [(hs a).1] at h3; cases h3
 | case3 a h1 h2 h3 m h4 ih => rw [(hs a).1] at h3; cases h3
 | case4 a h1 h2 h3 h4 h5 => rw [(hs a).2] at h4; cases h4
 | case5 a h1 h2 h3 h4 m h5 ih => rw [(hs a).2] at h4; cases h4
 | case6 a h1 h2 h3 h4 => intro _; unfold sub; simp [cnt]
 | case7 a h1 => intro _; unfold sub; simp [cnt]
theorem ext_sat (p : Nat → Bool) (s : List UInt8) (n : Nat) : ∀ j, n ≤ j → j < extent p s n → p (B s j) = true := by
 fun_induction extent p s n with
 | case1 n h1 h2 ih =>
  intro j hj hj2
  by_cases hje : j = n
  ·subst hje; exact h2
  ·exact ih j (by omega) hj2
 | case2 n h1 h2 => intro j hj hj2; omega
 | case3 n h1 => intro j hj hj2; omega
theorem B_drop (s : List UInt8) (i j : Nat) : B (s.drop i) j = B s (i + j) := by unfold B; simp [List.getD_eq_getElem?_getD]
theorem wq_val {n : Nat} (hn : n < 256) (h : wordQ n = true) : val (UInt8.ofNat n) = 0 := by
 apply val_of hn
 unfold wordQ word at h
 simp only [Bool.or_eq_true, Bool.and_eq_true, decide_eq_true_eq] at h
 omega
theorem w_val {n : Nat} (hn : n < 256) (h : word n = true) : val (UInt8.ofNat n) = 0 := wq_val hn (by unfold wordQ; rw [h]; rfl)
theorem lit_z {s : List UInt8} {p b : Nat} {l : List Nat} {sg : Bool} (hp : p < s.length) (h : lit s p = ⟨0, l, sg, b⟩) : cnt (sub s p b) = 0 := by
 have hx := (extent_bnd word (s.drop p) 0).2 (Nat.zero_le _)
 rw [List.length_drop] at hx
 have hw : ∀ j, p ≤ j → j < p + extent word (s.drop p) 0 → val (UInt8.ofNat (B s j)) = 0 := by
  intro j h1 h2
  have := ext_sat word (s.drop p) 0 (j - p) (by omega) (by omega)
  rw [B_drop, show p + (j - p) = j by omega] at this
  exact w_val (B_lt s j) this
 unfold lit at h
 have hq : hasPrefix (s.drop (p + extent word (s.drop p) 0)) [39] = true → p + extent word (s.drop p) 0 < s.length ∧ B s (p + extent word (s.drop p) 0) = 39 := by
  intro h
  have hlt : p + extent word (s.drop p) 0 < s.length := by
   rcases hasPrefix_le h with g | g
   ·simp at g; omega
   ·cases g
  refine ⟨hlt, ?_⟩
  unfold hasPrefix at h
  simp only [Bool.and_eq_true, decide_eq_true_eq] at h
  have h2 := congrArg (fun l => l[0]?) h.2
  simp [List.getElem?_take, List.getElem?_eq_getElem hlt] at h2
  rw [B_get s _ hlt, h2]; rfl
 generalize extent word (s.drop p) 0 = n at *
 generalize hasPrefix (s.drop (p + n)) [39] = q at *
 generalize plain (sub s p (p + n)) = m at *
 have hQ : ∀ w, q = true → litQ s (p + n) w = ⟨0, l, sg, b⟩ → cnt (sub s p b) = 0 := by
  intro w h1 h2
  obtain ⟨g1, g2⟩ := hq h1
  unfold litQ at h2
  split at h2
  ·cases h2
  ·rename_i h3
   split at h2
   ·injection h2 with _ _ _ h5
    apply sub_zr
    intro j j1 j2 j3
    by_cases c1 : j < p + n
    ·exact hw j j1 c1
    ·by_cases c2 : j = p + n
     ·subst c2; rw [g2]; decide
     ·have := ext_sat wordQ (s.drop (p + n + 1)) 0 (j - (p + n + 1)) (by omega) (by omega)
      rw [B_drop, show p + n + 1 + (j - (p + n + 1)) = j by omega] at this
      exact wq_val (B_lt s j) this
   ·rename_i h4; exact absurd (congrArg Lit.e h2) h4
 unfold litN at h
 cases m with
 | none =>
  simp only [] at h
  split at h
  ·cases h
  ·rename_i h1
   exact hQ 32 (by cases q <;> simp at h1 ⊢) h
 | some m =>
  simp only [] at h
  split at h
  ·split at h
   ·cases h
   ·injection h with _ _ _ h5
    apply sub_zr
    intro j j1 j2 j3
    exact hw j j1 (by omega)
  ·rename_i h1
   have hq1 : q = true := by cases q <;> simp at h1 ⊢
   split at h
   ·exact hQ 32 hq1 h
   ·split at h
    ·cases h
    ·exact hQ m hq1 h
theorem name_z {s : List UInt8} {a e : Nat} : cnt (sub s e (nameEnd s a e)) = 0 := by
 apply sub_zr
 intro j j1 j2 j3
 have := nameEnd_sat s a e j j1 j2
 apply val_of (B_lt s j)
 unfold letter digit at this
 simp only [Bool.or_eq_true, Bool.and_eq_true, decide_eq_true_eq] at this
 omega
theorem lex_z {s : List UInt8} {p b : Nat} {t : Tk} (hp : p < s.length) (h : lexR s p = ⟨t, b, 0⟩) (h5 : t.k ≠ 5) : cnt (sub s p b) = (if t.k = 6 ∨ t.k = 2 then cnt t.tx else 0) := by
 unfold lexR lexAt at h
 by_cases h1 : letter (B s p) = true
 ·rw [if_pos h1] at h
  simp only [rName, ok3, R3.mk.injEq] at h
  obtain ⟨rfl, rfl, _⟩ := h
  have := name_z (s := s) (a := p) (e := p)
  split
  ·rfl
  ·exact this
 rw [if_neg h1] at h
 by_cases h2 : (digit (B s p) || decide (B s p = 39)) = true
 ·rw [if_pos h2] at h
  simp only [] at h
  unfold rNum at h
  split at h
  ·rename_i h3
   simp only [R3.mk.injEq] at h
   obtain ⟨rfl, rfl, _⟩ := h
   rw [if_neg (by simp)]
   exact lit_z (l := (lit s p).bits) (sg := (lit s p).sg) hp (by generalize lit s p = r at *; cases r; simp only [] at h3; subst h3; rfl)
  ·rename_i h3
   simp only [er, R3.mk.injEq] at h
   exact absurd h.2.2 h3
 rw [if_neg h2] at h
 by_cases h3 : B s p = 36
 ·rw [if_pos h3] at h
  simp only [] at h
  unfold rSys at h
  split at h
  ·cases h
  ·simp only [ok3, R3.mk.injEq] at h
   obtain ⟨rfl, rfl, _⟩ := h
   rw [if_neg (by simp), sub_cnt s (Nat.le_succ p) ((nameEnd_ge s (p + 1) (p + 1)).1), name_z]
   have : cnt (sub s p (p + 1)) = 0 := by
    apply sub_zr
    intro j j1 j2 j3
    have : j = p := by omega
    subst this
    rw [h3]; decide
   show cnt (sub s p (p + 1)) + 0 = 0
   rw [this]; rfl
 rw [if_neg h3] at h
 by_cases h4 : B s p = 34
 ·rw [if_pos h4] at h
  simp only [] at h
  have : ∀ i l, (rStr s i l).e = 0 → (rStr s i l).t.k = 5 := by
   intro i l
   fun_induction rStr s i l <;> simp_all [er, ok3]
  have h6 := this (p + 1) [] (by rw [h])
  rw [h] at h6
  exact absurd h6 h5
 rw [if_neg h4] at h
 simp only [] at h
 unfold rPunct at h
 split at h
 ·cases h
 ·simp only [ok3, R3.mk.injEq] at h
  obtain ⟨rfl, rfl, _⟩ := h
  rw [if_pos (.inl rfl)]
theorem sees_z {s : List UInt8} (hs : NCm s) {a b : Nat} {t : Tk} (h : Sees s a t b) (h5 : t.k ≠ 5) : cnt (sub s a b) = (if t.k = 6 ∨ t.k = 2 then cnt t.tx else 0) := by
 obtain ⟨_, p, h1, h2, h3, h4, h6, h7⟩ := sees_dec h
 have hz := skip_z hs a (by rw [h1])
 rw [h1] at hz
 rw [sub_cnt s h2 (Nat.le_of_lt h4), hz, lex_z h3 h7 h5]
 omega
theorem pn_z {s x : List UInt8} (hs : NCm s) {a b : Nat} (h : Pn s a x b) : cnt (sub s a b) = cnt x := by
 obtain ⟨t, h, ht⟩ := h
 unfold hasT at ht
 simp only [Bool.and_eq_true, Bool.or_eq_true, decide_eq_true_eq] at ht
 rw [sees_z hs h (by omega), if_pos (by omega), ht.2]
theorem un_z : ∀ o, o < 21 → cnt (unSym.getD (o - 11) []) = 0 := by decide
theorem bi_z : ∀ o, o < 45 → cnt (biSym.getD (o - 21) []) = 0 := by decide
theorem g_z {s : List UInt8} (hs : NCm s) {w : Ex' ⊕ List Ex'} {a b : Nat} (h : G s w a b) : a ≤ b ∧ cnt (sub s a b) = 0 := by
 have T0 : ∀ {a b : Nat} {t : Tk}, Sees s a t b → (t.k = 1 ∨ t.k = 3 ∨ t.k = 4) → a ≤ b ∧ cnt (sub s a b) = 0 := fun h hk => ⟨Nat.le_of_lt (sees_b h).1, by rw [sees_z hs h (by omega), if_neg (by omega)]⟩
 have P : ∀ {a b : Nat} {x : List UInt8}, Pn s a x b → a ≤ b ∧ cnt (sub s a b) = cnt x := fun h => ⟨Nat.le_of_lt (pn_b h).1, pn_z hs h⟩
 have v40 : cnt [40] = 1 := rfl
 have v41 : cnt [41] = -1 := rfl
 have v123 : cnt [123] = 1 := rfl
 have v125 : cnt [125] = -1 := rfl
 have v91 : cnt [91] = 0 := rfl
 have v93 : cnt [93] = 0 := rfl
 have v58 : cnt [58] = 0 := rfl
 have v63 : cnt [63] = 0 := rfl
 have v44 : cnt [44] = 0 := rfl
 have v4358 : cnt [43, 58] = 0 := rfl
 have J : ∀ {a b c : Nat} {u v : Int}, (a ≤ b ∧ cnt (sub s a b) = u) → (b ≤ c ∧ cnt (sub s b c) = v) → (a ≤ c ∧ cnt (sub s a c) = u + v) := fun h1 h2 => ⟨Nat.le_trans h1.1 h2.1, by rw [sub_cnt s h1.1 h2.1, h1.2, h2.2]⟩
 have F : ∀ {a b : Nat} {u : Int}, (a ≤ b ∧ cnt (sub s a b) = u) → u = 0 → (a ≤ b ∧ cnt (sub s a b) = 0) := fun h hu => ⟨h.1, by rw [h.2, hu]⟩
 induction h with
 | lit h h4 => exact T0 h (by omega)
 | ref h h1 => exact T0 h (by omega)
 | sel1 h h1 hp hy hq ih => exact F (J (J (J (T0 h (by omega)) (P hp)) ih) (P hq)) (by rw [v91, v93]; rfl)
 | sel2 h h1 hp hy hq hp2 hz hq2 ihy ihz => exact F (J (J (J (J (J (J (T0 h (by omega)) (P hp)) ihy) (P hq)) (P hp2)) ihz) (P hq2)) (by rw [v91, v93]; rfl)
 | part h h1 hp hy hq hz hq2 ihy ihz => exact F (J (J (J (J (J (T0 h (by omega)) (P hp)) ihy) (P hq)) ihz) (P hq2)) (by rw [v91, v93, v58]; rfl)
 | slice h h1 hp hy hq hz hq2 ihy ihz => exact F (J (J (J (J (J (T0 h (by omega)) (P hp)) ihy) (P hq)) ihz) (P hq2)) (by rw [v91, v93, v4358]; rfl)
 | call h h1 hp hy hys hq ihy ihs => exact F (J (J (J (J (T0 h (by omega)) (P hp)) ihy) ihs) (P hq)) (by rw [v40, v41]; rfl)
 | sys0 h h3 hx => exact T0 h (by omega)
 | sys1 h h3 hx hp hy hq ih => exact F (J (J (J (T0 h (by omega)) (P hp)) ih) (P hq)) (by rw [v40, v41]; rfl)
 | par hp hy hq ih => exact F (J (J (P hp) ih) (P hq)) (by rw [v40, v41]; rfl)
 | cat hp hy hys hq ihy ihs => exact F (J (J (J (P hp) ihy) ihs) (P hq)) (by rw [v123, v125]; rfl)
 | rep hp hn hp2 hy hys hq hq2 ihn ihy ihs => exact F (J (J (J (J (J (J (P hp) ihn) (P hp2)) ihy) ihs) (P hq)) (P hq2)) (by rw [v123, v125]; rfl)
 | un h hu hy ih =>
  obtain ⟨u1, u2, u3, u4⟩ := un_get hu
  refine F (J (u := 0) ⟨Nat.le_of_lt (sees_b h).1, ?_⟩ ih) (by rfl)
  rw [sees_z hs h (by omega), if_pos (.inl u1), ← u4, un_z _ u3]
 | bin hx h hu hy ihx ihy =>
  obtain ⟨u1, u2, u3, u4⟩ := bi_get hu
  have hh := sees_z hs h (by omega)
  rw [if_pos (.inl u1), ← u4, bi_z _ u3] at hh
  exact F (J (J ihx ⟨Nat.le_of_lt (sees_b h).1, hh⟩) ihy) (by rfl)
 | cond hx hp hy hq hz ihx ihy ihz => exact F (J (J (J (J ihx (P hp)) ihy) (P hq)) ihz) (by rw [v63, v58]; rfl)
 | nil => exact ⟨Nat.le_refl _, by unfold sub; simp [cnt]⟩
 | cons hp hy hys ihy ihs => exact F (J (J (P hp) ihy) ihs) (by rw [v44]; rfl)
theorem ncm_take {t : List UInt8} (h : Sl t) (k : Nat) : NCm (t.take k) := by
 have : ∀ i (y : UInt8), y = 47 ∨ y = 42 → hasPrefix ((t.take k).drop i) [47, y] = false := by
  intro i y hy
  apply Bool.eq_false_iff.2
  intro hp
  unfold hasPrefix at hp
  simp only [Bool.and_eq_true, decide_eq_true_eq, List.length_cons, List.length_nil] at hp
  obtain ⟨h1, h2⟩ := hp
  have g0 : ((t.take k).drop i)[0]? = some 47 := by
   have := congrArg (fun l => l[0]?) h2
   simpa [List.getElem?_take] using this
  have g1 : ((t.take k).drop i)[1]? = some y := by
   have := congrArg (fun l => l[1]?) h2
   simpa [List.getElem?_take] using this
  rw [List.getElem?_drop, List.getElem?_take] at g0 g1
  split at g0
  ·split at g1
   ·have := h i (by simpa using g0)
    rw [this] at g1
    injection g1 with g1
    subst g1
    rcases hy with hy | hy <;> exact absurd hy (by decide)
   ·cases g1
  ·cases g0
 exact fun i => ⟨this i 47 (.inl rfl), this i 42 (.inr rfl)⟩
theorem cut_bad {x : Ex'} (h : checkF x = 0) (hl : (txt x).length ≤ 65536) {c : UInt8} {r : List UInt8} (hc : txt x = c :: r) (hb : c = 40 ∨ c = 123) (k : Nat) (hk : k < (txt x).length) : (parseF ((txt x).take k) 0).2.2 ≠ 0 := by
 intro h0
 obtain ⟨hbs, hbr⟩ := txt_bs x (check_nodes h)
 obtain ⟨c1, d1, l, e, v1, v2, hl2⟩ := hbr c r hc hb
 obtain ⟨a, b, e1, e2, e3, e4, _, _, _, _, hg⟩ := parse_ok h0 (by simp; omega)
 have ha : a = 0 := by omega
 subst ha
 have hz := (g_z (ncm_take hbs.s k) hg).2
 have hlen : ((txt x).take k).length = k := by rw [List.length_take]; omega
 have hsub : sub ((txt x).take k) 0 b = (txt x).take b := by
  unfold sub
  rw [List.drop_zero, List.take_take, Nat.min_eq_left (by omega)]
 rw [hsub] at hz
 have := (bal_br v1 v2 hl2.b).2 b e3 (by rw [← e]; omega)
 rw [← e, hz] at this
 omega
end Go.TM.R8
