/- Expressions, plain: a formatted expression is read back. -/
import Derived.Test.YtgmclgajlofljaaGreatDoorV8B
import Derived.Test.YtgmclgajlofljaaGreatDoorQ8JW
set_option linter.all false
namespace Go.TM.R8
open Go Go.TM Go.Proofs
mutual
def can : Ex' → Ex'
 | .mk op name bn bits vs an args sig width sg => if op = 1 then litE false bits vs else .mk op (if named op = true ∨ op = 9 then name else []) true [] false (args.isEmpty) (canL args) 0 0 false
def canL : List Ex' → List Ex'
 | [] => []
 | x :: xs => can x :: canL xs
end
theorem canL_map : ∀ xs, canL xs = xs.map can
 | [] => rfl
 | x :: xs => by rw [canL, canL_map xs]; rfl
theorem can_eq (x : Ex') : can x = if x.op = 1 then litE false x.bits x.vs else .mk x.op (if named x.op = true ∨ x.op = 9 then x.name else []) true [] false x.args.isEmpty (x.args.map can) 0 0 false := by
 cases x; rw [can, canL_map]; rfl
theorem can_mk {x : Ex'} {o : Nat} {nm : List UInt8} {ys : List Ex'} (ho : x.op = o) (h1 : o ≠ 1) (hn : (if named o = true ∨ o = 9 then x.name else []) = nm) (ha : x.args = ys) (h0 : ys ≠ []) : can x = mkE o nm (ys.map can) := by
 rw [can_eq, ho, if_neg h1, hn, ha]
 cases ys with
 | nil => exact absurd rfl h0
 | cons y ys => rfl
def Aft (r : List UInt8) : Prop := r = [] ∨ ∃ c r', r = c :: r' ∧ stp c = true
theorem aft_c {c : UInt8} {r : List UInt8} (h : stp c = true) : Aft (c :: r) := .inr ⟨c, r, rfl, h⟩
theorem letter_sep {c : Nat} (h : letter c = true) : sep c = false ∧ c ≠ 47 := by
 unfold letter at h; unfold sep
 simp only [Bool.or_eq_true, Bool.and_eq_true, decide_eq_true_eq] at h
 constructor
 ·simp; omega
 ·omega
theorem digit_sep {c : Nat} (h : digit c = true) : sep c = false ∧ c ≠ 47 := by
 unfold digit at h; unfold sep
 simp only [Bool.and_eq_true, decide_eq_true_eq] at h
 constructor
 ·simp; omega
 ·omega
theorem lex_aft {x r : List UInt8} (hr : Aft r) (h0 : 0 < x.length) (h : (lexR x 0).e = 0) (hk : (letter (B x 0) || (digit (B x 0) || decide (B x 0 = 39)) || decide (B x 0 = 36)) = true) : lexR (x ++ r) 0 = lexR x 0 := by
 rcases hr with rfl | ⟨c, r', rfl, hc⟩
 ·rw [List.append_nil]
 ·exact pc_lexR x r' c hc 0 h0 h hk
theorem see_id {s : List UInt8} {a : Nat} {x r : List UInt8} (hs : s.length ≤ 65536) (hd : s.drop a = x ++ r) (hr : Aft r) (hx : ident x = true) : Sees s a ⟨1, x, true, [], false⟩ (a + x.length) ∧ s.drop (a + x.length) = r := by
 unfold ident at hx
 rw [Bool.and_eq_true] at hx
 obtain ⟨h1, h2⟩ := whole_eq hx.1
 have hl := name_letter h1 h2
 have hk : keyword x = false := by simpa using hx.2
 have hR := rd_name x h1 h2
 rw [hk] at hR
 refine see hs hd h1 ?_ (letter_sep hl).1 (.inl (letter_sep hl).2)
 rw [lex_aft hr h1 (by rw [hR]; rfl) (by rw [hl]; rfl), hR]; rfl
theorem nameEnd_all (s : List UInt8) (a e : Nat) (h : ∀ j, a ≤ j → j < s.length → letter (B s j) = true) (h1 : a ≤ e) (h2 : e ≤ s.length) : nameEnd s a e = s.length := by
 fun_induction nameEnd s a e with
 | case1 e h3 h4 ih => exact ih (by omega) (by omega)
 | case2 e h3 h4 => exfalso; apply h4; rw [h e h1 h3]; rfl
 | case3 e h3 => omega
theorem sys_all : ∀ x ∈ [sTime, sSig, sUns], 1 < x.length ∧ B x 0 = 36 ∧ ∀ j, j < x.length → 1 ≤ j → letter (B x j) = true := by decide
theorem see_sys {s : List UInt8} {a : Nat} {x r : List UInt8} (hs : s.length ≤ 65536) (hd : s.drop a = x ++ r) (hr : Aft r) (hx : x ∈ [sTime, sSig, sUns]) : Sees s a ⟨3, x, true, [], false⟩ (a + x.length) ∧ s.drop (a + x.length) = r := by
 obtain ⟨h1, h2, h3⟩ := sys_all x hx
 have hR := rd_sys x h1 h2 (nameEnd_all x 1 1 (fun j hj hj2 => h3 j hj2 hj) (Nat.le_refl _) (by omega))
 refine see hs hd (by omega) ?_ (by rw [h2]; rfl) (.inl (by rw [h2]; decide))
 rw [lex_aft hr (by omega) (by rw [hR]; rfl) (by rw [h2]; rfl), hR]; rfl
theorem num_rd {l : List Nat} (sg : Bool) (h : chk l = 0) : 0 < (numF l sg).1.length ∧ digit (B (numF l sg).1 0) = true ∧ lexR (numF l sg).1 0 = ⟨⟨4, [], false, l, sg⟩, (numF l sg).1.length, 0⟩ := by
 unfold numF
 rw [if_pos h]
 cases hn : decV l sg with
 | some n =>
  have hsg : sg = true := by
   unfold decV at hn
   split at hn
   ·next hc => exact hc.2.1
   ·cases hn
  subst hsg
  have := lit_dec n (decV_lt hn)
  rw [bits_back hn] at this
  exact ⟨dd_pos n, dec_B n, rd_num _ _ _ (dec_B n) this⟩
 | none => exact ⟨by show 0 < (fmtB l sg).length; unfold fmtB; simp; omega, fmtB_B _ _, rd_num _ _ _ (fmtB_B _ _) (lit_fmtB _ _ h)⟩
theorem see_num {s : List UInt8} {a : Nat} {l : List Nat} {sg : Bool} {r : List UInt8} (hs : s.length ≤ 65536) (hd : s.drop a = (numF l sg).1 ++ r) (hr : Aft r) (hx : chk l = 0) : Sees s a ⟨4, [], false, l, sg⟩ (a + (numF l sg).1.length) ∧ s.drop (a + (numF l sg).1.length) = r := by
 obtain ⟨h1, h2, h3⟩ := num_rd sg hx
 refine see hs hd h1 ?_ (digit_sep h2).1 (.inl (digit_sep h2).2)
 rw [lex_aft hr h1 (by rw [h3]) (by rw [h2]; simp), h3]
theorem lv_sp {s : List UInt8} {a : Nat} {c : UInt8} {r : List UInt8} (K : Nat) (hd : s.drop a = c :: r) (hc : sep c.toNat = true) : (lvF s (K + 1)).1 (at0 a) = (lvF s (K + 1)).1 (at0 (a + 1)) ∧ (lvF s (K + 1)).2 (at0 a) = (lvF s (K + 1)).2 (at0 (a + 1)) := by
 have h2 : ∀ fx fu : PF, fuS s fx fu (at0 a) = fuS s fx fu (at0 (a + 1)) := by
  intro fx fu
  unfold fuS unaF priF
  rw [pk_sp hd hc]
  have : nxF s (at0 a) = nxF s (at0 (a + 1)) := by unfold nxF at0; simp only [if_true]; rw [(see_sp hd hc).1]
  rw [this]; rfl
 refine ⟨?_, h2 _ _⟩
 rw [lvF_1]
 unfold fxS exF
 rw [if_pos (at0_e a), if_pos (at0_e (a + 1)), cli_s, cli_s, h2]
theorem bi_sym : ∀ o, o < 45 → 21 ≤ o → biSym.getD (o - 21) [] ∈ puncts ∧ biF (pT (biSym.getD (o - 21) [])) = o ∧ 1 ≤ levelF o ∧ hasT (pT (biSym.getD (o - 21) [])) [40] = false ∧ hasT (pT (biSym.getD (o - 21) [])) [91] = false ∧ 0 < (biSym.getD (o - 21) []).length := by decide
theorem un_sym : ∀ o, o < 21 → 11 ≤ o → unSym.getD (o - 11) [] ∈ puncts ∧ unF (pT (unSym.getD (o - 11) [])) = o ∧ 0 < (unSym.getD (o - 11) []).length ∧ B (unSym.getD (o - 11) []) 0 ≠ 47 := by decide
instance (t : Tk) : Decidable (EndT t) := by unfold EndT; infer_instance
instance (t : Tk) : Decidable (NoOpen t) := by unfold NoOpen; infer_instance
def closer (c : UInt8) : Bool := [41, 93, 125, 44, 58, 123, 59].contains c
theorem closer_ok : ∀ c ∈ ([41, 93, 125, 44, 58, 123, 59] : List UInt8), [c] ∈ puncts ∧ sole [c] = true ∧ c ≠ 47 ∧ EndT (pT [c]) ∧ NoOpen (pT [c]) ∧ stp c = true := by decide
theorem see_c {s : List UInt8} {a : Nat} {c : UInt8} {r : List UInt8} (hs : s.length ≤ 65536) (hc : c ∈ ([41, 93, 125, 44, 58, 123, 59] : List UInt8)) (hd : s.drop a = c :: r) : Sees s a (pT [c]) (a + 1) ∧ s.drop (a + 1) = r ∧ EndT (pkF s (at0 a)) ∧ NoOpen (pkF s (at0 a)) ∧ Aft (c :: r) := by
 obtain ⟨h1, h2, h3, h4, h5, h6⟩ := closer_ok c hc
 have h := see_1 hs hd h1 h2 h3
 rw [sees_pk h.1]
 exact ⟨h.1, h.2, h4, h5, aft_c h6⟩
def Rd (s : List UInt8) (fx : PF) (y : Ex') : Prop := ∀ b r, s.drop b = txt y ++ r → Aft r → EndT (pkF s (at0 (b + (txt y).length))) → NoOpen (pkF s (at0 (b + (txt y).length))) → fx (at0 b) = (can y, at0 (b + (txt y).length))
theorem drop_add {s x r : List UInt8} {b : Nat} (h : s.drop b = x ++ r) : s.drop (b + x.length) = r := by rw [← List.drop_drop, h, List.drop_left]
theorem rd_c {s : List UInt8} {fx : PF} {y : Ex'} (hs : s.length ≤ 65536) (h : Rd s fx y) {b : Nat} {c : UInt8} {r : List UInt8} (hc : c ∈ ([41, 93, 125, 44, 58, 123, 59] : List UInt8)) (hd : s.drop b = txt y ++ c :: r) :
  fx (at0 b) = (can y, at0 (b + (txt y).length)) ∧ Sees s (b + (txt y).length) (pT [c]) (b + (txt y).length + 1) ∧ s.drop (b + (txt y).length + 1) = r := by
 obtain ⟨h1, h2, h3, h4, h5⟩ := see_c hs hc (drop_add hd)
 exact ⟨h b _ hd h5 h3 h4, h1, h2⟩
theorem rest_all {s : List UInt8} {K : Nat} (hs : s.length ≤ 65536) {c : UInt8} (hc : c = 41 ∨ c = 125) : ∀ (xs : List Ex') (l : List Ex') (n a : Nat) (r : List UInt8), (∀ y ∈ xs, Rd s (lvF s (K + 1)).1 y) → xs.length < n → s.drop a = moreT xs ++ c :: r →
  restF s (lvF s (K + 1)).1 n l (at0 a) = (l ++ xs.map can, at0 (a + (moreT xs).length)) ∧ Sees s (a + (moreT xs).length) (pT [c]) (a + (moreT xs).length + 1) ∧ s.drop (a + (moreT xs).length + 1) = r
 | [], l, n, a, r, hx, hn, hd => by
  obtain ⟨n, rfl⟩ : ∃ m, n = m + 1 := ⟨n - 1, by simp at hn; omega⟩
  have hcm : c ∈ ([41, 93, 125, 44, 58, 123, 59] : List UInt8) := by rcases hc with rfl | rfl <;> simp
  obtain ⟨h1, h2, h3, h4, h5⟩ := see_c hs hcm (show s.drop a = c :: r from hd)
  rw [rest_end (by rw [sees_pk h1]; rcases hc with rfl | rfl <;> decide)]
  simp only [moreT, List.length_nil, Nat.add_zero, List.map_nil, List.append_nil]
  exact ⟨trivial, h1, h2⟩
 | x :: xs, l, n, a, r, hx, hn, hd => by
  obtain ⟨n, rfl⟩ : ∃ m, n = m + 1 := ⟨n - 1, by simp at hn; omega⟩
  have hd : s.drop a = 44 :: 32 :: (txt x ++ (moreT xs ++ c :: r)) := by rw [hd]; simp [moreT]
  obtain ⟨h1, h2, _, _, _⟩ := see_c hs (by simp) hd
  have hd3 := (see_sp h2 rfl).2
  have hf : ∃ d r', moreT xs ++ c :: r = d :: r' ∧ d ∈ ([41, 93, 125, 44, 58, 123, 59] : List UInt8) := by
   cases xs with
   | nil => exact ⟨c, r, rfl, by rcases hc with rfl | rfl <;> simp⟩
   | cons y ys => exact ⟨44, _, rfl, by simp⟩
  obtain ⟨d, r', hdr, hdm⟩ := hf
  have hx1 := rd_c hs (hx x (by simp)) hdm (hdr ▸ hd3)
  have hsp := (lv_sp K h2 rfl).1
  rw [hx1.1] at hsp
  have ih := rest_all hs hc xs (l ++ [can x]) n (a + 1 + 1 + (txt x).length) r (fun y hy => hx y (List.mem_cons_of_mem _ hy)) (by simp at hn; omega) (drop_add hd3)
  rw [rest_step h1 hsp]
  have e : a + 1 + 1 + (txt x).length + (moreT xs).length = a + (moreT (x :: xs)).length := by simp [moreT]; omega
  rw [e] at ih
  refine ⟨?_, ih.2⟩
  rw [ih.1]; simp
theorem more_le : ∀ xs : List Ex', xs.length ≤ (moreT xs).length
 | [] => Nat.le_refl _
 | x :: xs => by have := more_le xs; simp [moreT]; omega
theorem drop_le {s x r : List UInt8} {b : Nat} (h : s.drop b = x ++ r) : x.length ≤ s.length := by
 have := congrArg List.length h
 rw [List.length_drop, List.length_append] at this
 omega
theorem txt_fc {x : Ex'} (h : chkN x = 0) : ∃ c r, txt x = c :: r ∧ fc c = true := by
 have ok := ok_of h
 have nmf : named x.op = true → ∃ c r, x.name = c :: r ∧ fc c = true := by
  intro hn
  have hi := ok.nm hn
  have h0 := ident_pos hi
  unfold ident at hi
  rw [Bool.and_eq_true] at hi
  obtain ⟨h1, h2⟩ := whole_eq hi.1
  have hl := name_letter h1 h2
  cases hx : x.name with
  | nil => rw [hx] at h0; simp at h0
  | cons c r =>
   rw [hx] at hl
   exact ⟨c, r, rfl, by unfold fc; rw [show c.toNat = B (c :: r) 0 from rfl, hl]; rfl⟩
 have app : ∀ (y z : List UInt8), (∃ c r, y = c :: r ∧ fc c = true) → ∃ c r, y ++ z = c :: r ∧ fc c = true := by
  rintro y z ⟨c, r, rfl, hc⟩
  exact ⟨c, r ++ z, rfl, hc⟩
 have har := ok.ar
 unfold arity at har
 rw [txt_eq]
 by_cases h1 : x.op = 1
 ·obtain ⟨g1, g2, _⟩ := num_rd x.vs (ok.li h1)
  rw [h1]
  simp only [node, if_true, List.flatten_cons, List.flatten_nil, List.append_nil]
  cases hx : (numF x.bits x.vs).1 with
  | nil => rw [hx] at g1; simp at g1
  | cons c r => rw [hx] at g2; exact ⟨c, r, rfl, by unfold fc; rw [show c.toNat = B (c :: r) 0 from rfl, g2]; simp⟩
 by_cases h2 : x.op = 2
 ·rw [h2]; simp only [node, reduceIte, Nat.reduceEqDiff]; simpa using nmf (by rw [h2]; rfl)
 by_cases h3 : x.op = 3
 ·rw [h3]; simp only [node, reduceIte, Nat.reduceEqDiff]; simpa using app _ _ (nmf (by rw [h3]; rfl))
 have har2 : ∀ (q : List (List (List UInt8))) (t : List UInt8) (ts : List (List UInt8)), ∃ z, (arnd q (t :: ts)).flatten = t ++ z := by
  intro q t ts
  cases q with
  | nil => exact ⟨_, by rw [arnd, List.flatten_cons]⟩
  | cons a q => exact ⟨_, by rw [arnd, List.flatten_cons]⟩
 by_cases h4 : x.op = 4
 ·rw [h4]; simp only [node, reduceIte, Nat.reduceEqDiff]
  obtain ⟨z, hz⟩ := har2 (x.args.map pc) (x.name ++ [91]) [[58], [93]]
  rw [hz, List.append_assoc]
  exact app _ _ (nmf (by rw [h4]; rfl))
 by_cases h5 : x.op = 5
 ·rw [h5]; simp only [node, reduceIte, Nat.reduceEqDiff]
  obtain ⟨z, hz⟩ := har2 (x.args.map pc) (x.name ++ [91]) [[43, 58], [93]]
  rw [hz, List.append_assoc]
  exact app _ _ (nmf (by rw [h5]; rfl))
 by_cases h6 : x.op = 6
 ·rw [h6]; simp only [node, reduceIte, Nat.reduceEqDiff]; exact ⟨123, _, rfl, rfl⟩
 by_cases h7 : x.op = 7
 ·rw [h7]; simp only [node, reduceIte, Nat.reduceEqDiff]
  obtain ⟨z, hz⟩ := har2 ((x.args.map pc).take 1) [123] [[123]]
  rw [List.flatten_append, hz]
  exact ⟨123, _, rfl, rfl⟩
 by_cases h8 : x.op = 8
 ·rw [h8]; simp only [node, reduceIte, Nat.reduceEqDiff]
  rw [List.flatten_cons]
  exact app _ _ (nmf (by rw [h8]; rfl))
 by_cases h9 : x.op = 9
 ·rw [h9]; simp only [node, reduceIte, Nat.reduceEqDiff]
  have hsy := ok.sy h9
  rw [List.flatten_cons]
  apply app
  unfold sysOk at hsy
  simp only [Bool.or_eq_true, Bool.and_eq_true, decide_eq_true_eq] at hsy
  rcases hsy with ⟨e, _⟩ | ⟨e | e, _⟩ <;> rw [e] <;> exact ⟨36, _, rfl, rfl⟩
 by_cases h10 : x.op = 10
 ·rw [h10]; simp only [node, reduceIte, Nat.reduceEqDiff]
  obtain ⟨z, hz⟩ := har2 (x.args.map pc) [40] [[32, 63, 32], [32, 58, 32], [41]]
  rw [hz]
  exact ⟨40, _, rfl, rfl⟩
 unfold node
 rw [if_neg h1, if_neg h2, if_neg h3, if_neg h4, if_neg h5, if_neg h6, if_neg h7, if_neg h8, if_neg h9, if_neg h10]
 split
 ·obtain ⟨z, hz⟩ := har2 (x.args.map pc) ([40] ++ unSym.getD (x.op - 11) []) [[41]]
  rw [hz]
  exact ⟨40, _, rfl, rfl⟩
 ·obtain ⟨z, hz⟩ := har2 (x.args.map pc) [40] [[32] ++ biSym.getD (x.op - 21) [] ++ [32], [41]]
  rw [hz]
  exact ⟨40, _, rfl, rfl⟩
theorem len1 {α : Type} {l : List α} (h : l.length = 1) : ∃ a, l = [a] := List.length_eq_one_iff.1 h
theorem len2 {α : Type} {l : List α} (h : l.length = 2) : ∃ a b, l = [a, b] := by
 match l, h with
 | [a, b], _ => exact ⟨a, b, rfl⟩
theorem len3 {α : Type} {l : List α} (h : l.length = 3) : ∃ a b c, l = [a, b, c] := by
 match l, h with
 | [a, b, c], _ => exact ⟨a, b, c, rfl⟩
theorem len1p {α : Type} {l : List α} (h : 0 < l.length) : ∃ a r, l = a :: r := by cases l with | nil => simp at h | cons a r => exact ⟨a, r, rfl⟩
theorem len2p {α : Type} {l : List α} (h : 1 < l.length) : ∃ a b r, l = a :: b :: r := by
 match l, h with
 | a :: b :: r, _ => exact ⟨a, b, r, rfl⟩
def Ru (s : List UInt8) (K : Nat) (x : Ex') : Prop := ∀ a r, s.drop a = txt x ++ r → Aft r → NoOpen (pkF s (at0 (a + (txt x).length))) → (lvF s K).2 (at0 a) = (can x, at0 (a + (txt x).length))
theorem rd_of {s : List UInt8} {K : Nat} {x : Ex'} (h : Ru s (K + 1) x) : Rd s (lvF s (K + 1)).1 x := fun b r hd hr he hn => ex_of (h b r hd hr hn) he
theorem obj_ref {s : List UInt8} {fx : PF} {x : List UInt8} {b : Nat} (h : NoOpen (pkF s (at0 b))) : objF s fx x (at0 b) = (refE 2 x, at0 b) := by
 unfold objF
 rw [my_eq, h.1, if_neg (by decide), my_eq, h.2, if_neg (by decide)]
theorem obj_idx {s : List UInt8} {fx : PF} {x : List UInt8} {b q : Nat} {y : Ex'} {p : PS} (h : Sees s b (pT [91]) q) (hy : fx (at0 q) = (y, p)) : objF s fx x (at0 b) = selE s fx x (y, p) := by
 unfold objF
 rw [sees_my h, if_neg (by decide), sees_my h, if_pos (by decide), sees_tk h (by decide), hy]
theorem obj_call {s : List UInt8} {fx : PF} {x : List UInt8} {b q : Nat} {y : Ex'} {p : PS} (h : Sees s b (pT [40]) q) (hy : fx (at0 q) = (y, p)) : objF s fx x (at0 b) = callE s fx x (y, p) := by
 unfold objF
 rw [sees_my h, if_pos (by decide), sees_tk h (by decide), hy]
theorem sel_part {s : List UInt8} {fx : PF} {x : List UInt8} {y z : Ex'} {b q p : Nat} (h : Sees s b (pT [58]) q) (hz : fx (at0 q) = (z, at0 p)) : selE s fx x (y, at0 b) = two s 4 x y (z, at0 p) := by
 unfold selE
 simp only []
 rw [sees_my h, if_pos (by decide), sees_tk h (by decide), hz]
theorem sel_slice {s : List UInt8} {fx : PF} {x : List UInt8} {y z : Ex'} {b q p : Nat} (h : Sees s b (pT [43, 58]) q) (hz : fx (at0 q) = (z, at0 p)) : selE s fx x (y, at0 b) = two s 5 x y (z, at0 p) := by
 unfold selE
 simp only []
 rw [sees_my h, if_neg (by decide), sees_my h, if_pos (by decide), sees_tk h (by decide), hz]
theorem sel_one {s : List UInt8} {fx : PF} {x : List UInt8} {y : Ex'} {b q : Nat} (h : Sees s b (pT [93]) q) : selE s fx x (y, at0 b) = sel1 s fx x y (at0 q) := by
 unfold selE
 simp only []
 rw [sees_my h, if_neg (by decide), sees_my h, if_neg (by decide), sees_tk h (by decide)]
theorem two_end {s : List UInt8} {o : Nat} {x : List UInt8} {y z : Ex'} {b q : Nat} (h : Sees s b (pT [93]) q) : two s o x y (z, at0 b) = (mkE o x [y, z], at0 q) := by
 unfold two
 simp only [sees_tk h (show hasT (pT [93]) [93] = true by decide)]
theorem pos_name {x : Ex'} (ok : Ok x) (h : named x.op = true) : ident x.name = true := ok.nm h
theorem una : ∀ x : Ex', ∀ (K : Nat) (s : List UInt8), chkN x = 0 → s.length ≤ 65536 → 2 * (size x).2 ≤ K + 1 → Ru s K x := by
 refine Ex'.ind3 fun x ih K s hk hs hK a r hd hr hno => ?_
 have ok := ok_of hk
 have hsz : (size x).2 = (sizeL x.args).2 + 1 := by rw [size_eq]
 have hch : ∀ y ∈ x.args, chkN y = 0 := by
  rw [chkN_eq] at hk
  split at hk
  ·exact chkL_all _ hk
  ·rename_i h0; exact absurd hk h0
 obtain ⟨K, rfl⟩ : ∃ k, K = k + 1 := ⟨K - 1, by omega⟩
 have hu : ∀ y ∈ x.args, ∀ k, 2 * (sizeL x.args).2 ≤ k + 1 → Ru s k y := fun y hy k hk => ih y hy k s (hch y hy) hs (by have := (sizeL_mem _ _ hy).2; omega)
 have har := ok.ar
 unfold arity at har
 have hlev : ∀ y ∈ x.args, ∃ j, K = j + 1 := fun y hy => by
  have h1 := (sizeL_mem _ _ hy).2
  have h2 : 1 ≤ (size y).2 := by rw [size_eq]; simp
  exact ⟨K - 1, by omega⟩
 by_cases h1 : x.op = 1
 ·rw [t_lit h1] at hd hno ⊢
  obtain ⟨hS, _⟩ := see_num hs hd hr (ok.li h1)
  rw [una_pri hS rfl, pri_num, can_eq, if_pos h1]
 by_cases h2 : x.op = 2
 ·rw [t_ref h2] at hd hno ⊢
  obtain ⟨hS, _⟩ := see_id hs hd hr (ok.nm (by rw [h2]; rfl))
  rw [h2] at har
  have ha : x.args = [] := by simpa using har
  rw [una_pri hS rfl, pri_id, obj_ref hno, can_eq, if_neg (by omega), h2, ha]; rfl
 by_cases h3 : x.op = 3
 ·have hid := ok.nm (by rw [h3]; rfl)
  rw [h3] at har
  have har : x.args.length = 1 ∨ x.args.length = 2 := by simpa using har
  rcases har with ha | ha
  ·obtain ⟨y, ha⟩ := len1 ha
   have ht := t_sel1 h3 ha
   rw [ht] at hd
   have hd : s.drop a = x.name ++ (91 :: (txt y ++ 93 :: r)) := by rw [hd]; simp
   obtain ⟨hS, d1⟩ := see_id hs hd (aft_c (by decide)) hid
   obtain ⟨S1, d2⟩ := see_1 hs d1 (by decide) (by decide) (by decide)
   obtain ⟨j, rfl⟩ := hlev y (by rw [ha]; simp)
   obtain ⟨e1, S2, d3⟩ := rd_c hs (rd_of (hu y (by rw [ha]; simp) (j + 1) (by omega))) (by simp) d2
   have e : a + (txt x).length = a + x.name.length + 1 + (txt y).length + 1 := by rw [ht]; simp; omega
   rw [e] at hno ⊢
   rw [una_pri hS rfl, pri_id, obj_idx S1 e1, sel_one S2]
   unfold sel1
   rw [my_eq, hno.2, if_neg (by decide), can_mk (nm := x.name) h3 (by decide) (by simp [named]) ha (by simp)]; rfl
  ·obtain ⟨y, z, ha⟩ := len2 ha
   have ht := t_sel2 h3 ha
   rw [ht] at hd
   have hd : s.drop a = x.name ++ (91 :: (txt y ++ 93 :: 91 :: (txt z ++ 93 :: r))) := by rw [hd]; simp
   obtain ⟨hS, d1⟩ := see_id hs hd (aft_c (by decide)) hid
   obtain ⟨S1, d2⟩ := see_1 hs d1 (by decide) (by decide) (by decide)
   obtain ⟨j, rfl⟩ := hlev y (by rw [ha]; simp)
   obtain ⟨e1, S2, d3⟩ := rd_c hs (rd_of (hu y (by rw [ha]; simp) (j + 1) (by omega))) (by simp) d2
   obtain ⟨S3, d4⟩ := see_1 hs d3 (by decide) (by decide) (by decide)
   obtain ⟨e2, S4, d5⟩ := rd_c hs (rd_of (hu z (by rw [ha]; simp) (j + 1) (by omega))) (by simp) d4
   have e : a + (txt x).length = a + x.name.length + 1 + (txt y).length + 1 + 1 + (txt z).length + 1 := by rw [ht]; simp; omega
   rw [e]
   rw [una_pri hS rfl, pri_id, obj_idx S1 e1, sel_one S2]
   unfold sel1
   rw [sees_my S3, if_pos (by decide), sees_tk S3 (by decide), e2, two_end S4, can_mk (nm := x.name) h3 (by decide) (by simp [named]) ha (by simp)]; rfl
 by_cases h4 : x.op = 4
 ·have hid := ok.nm (by rw [h4]; rfl)
  rw [h4] at har
  obtain ⟨y, z, ha⟩ := len2 (by simpa using har)
  have ht := t_part h4 ha
  rw [ht] at hd
  have hd : s.drop a = x.name ++ (91 :: (txt y ++ 58 :: (txt z ++ 93 :: r))) := by rw [hd]; simp
  obtain ⟨hS, d1⟩ := see_id hs hd (aft_c (by decide)) hid
  obtain ⟨S1, d2⟩ := see_1 hs d1 (by decide) (by decide) (by decide)
  obtain ⟨j, rfl⟩ := hlev y (by rw [ha]; simp)
  obtain ⟨e1, S2, d3⟩ := rd_c hs (rd_of (hu y (by rw [ha]; simp) (j + 1) (by omega))) (by simp) d2
  obtain ⟨e2, S4, d5⟩ := rd_c hs (rd_of (hu z (by rw [ha]; simp) (j + 1) (by omega))) (by simp) d3
  have e : a + (txt x).length = a + x.name.length + 1 + (txt y).length + 1 + (txt z).length + 1 := by rw [ht]; simp; omega
  rw [e]
  rw [una_pri hS rfl, pri_id, obj_idx S1 e1, sel_part S2 e2, two_end S4, can_mk (nm := x.name) h4 (by decide) (by simp [named]) ha (by simp)]; rfl
 by_cases h5 : x.op = 5
 ·have hid := ok.nm (by rw [h5]; rfl)
  rw [h5] at har
  obtain ⟨y, z, ha⟩ := len2 (by simpa using har)
  have ht := t_slice h5 ha
  rw [ht] at hd
  have hd : s.drop a = x.name ++ (91 :: (txt y ++ 43 :: 58 :: (txt z ++ 93 :: r))) := by rw [hd]; simp
  obtain ⟨hS, d1⟩ := see_id hs hd (aft_c (by decide)) hid
  obtain ⟨S1, d2⟩ := see_1 hs d1 (by decide) (by decide) (by decide)
  obtain ⟨j, rfl⟩ := hlev y (by rw [ha]; simp)
  have hdy := drop_add d2
  obtain ⟨S2, d3⟩ := see_p (x := [43, 58]) hs hdy (by decide) (fun c r' _ => sole_bad c (by decide)) (.inl (by decide))
  have e1 := rd_of (hu y (by rw [ha]; simp) (j + 1) (by omega)) _ _ d2 (aft_c (by decide)) (by rw [sees_pk S2]; decide) (by rw [sees_pk S2]; decide)
  obtain ⟨e2, S4, d5⟩ := rd_c hs (rd_of (hu z (by rw [ha]; simp) (j + 1) (by omega))) (by simp) d3
  have e : a + (txt x).length = a + x.name.length + 1 + (txt y).length + 2 + (txt z).length + 1 := by rw [ht]; simp; omega
  rw [e]
  rw [una_pri hS rfl, pri_id, obj_idx S1 e1, sel_slice S2 e2, two_end S4, can_mk (nm := x.name) h5 (by decide) (by simp [named]) ha (by simp)]; rfl
 by_cases h6 : x.op = 6
 ·rw [h6] at har
  obtain ⟨y, ys, ha⟩ := len1p (by simpa using har)
  have ht := t_cat h6 ha
  rw [ht] at hd
  have hd : s.drop a = 123 :: (txt y ++ (moreT ys ++ 125 :: r)) := by rw [hd]; simp
  obtain ⟨hS, d1⟩ := see_1 hs hd (by decide) (by decide) (by decide)
  obtain ⟨j, rfl⟩ := hlev y (by rw [ha]; simp)
  have hf : ∃ d r', moreT ys ++ 125 :: r = d :: r' ∧ d ∈ ([41, 93, 125, 44, 58, 123, 59] : List UInt8) ∧ d ≠ 123 := by
   cases ys with
   | nil => exact ⟨125, r, rfl, by simp, by decide⟩
   | cons y ys => exact ⟨44, _, rfl, by simp, by decide⟩
  obtain ⟨d, r', hdr, hdm, hd123⟩ := hf
  obtain ⟨e1, S2, _⟩ := rd_c hs (rd_of (hu y (by rw [ha]; simp) (j + 1) (by omega))) hdm (hdr ▸ d1)
  have d2 := drop_add d1
  have hln := drop_le d2
  have hml := more_le ys
  obtain ⟨e3, S3, _⟩ := rest_all hs (.inr rfl) ys [can y] (fuelR s) _ r (fun z hz => rd_of (hu z (by rw [ha]; simp [hz]) (j + 1) (by omega))) (by unfold fuelR; omega) d2
  have e : a + (txt x).length = a + 1 + (txt y).length + (moreT ys).length + 1 := by rw [ht]; simp; omega
  rw [e]
  rw [una_pri hS (by decide), pri_br]
  unfold braF bra
  rw [e1]
  simp only []
  rw [sees_my S2, if_neg (by unfold hasT pT; simp [hd123])]
  unfold bra2 rsF
  simp only []
  rw [e3]
  simp only [sees_tk S3 (show hasT (pT [125]) [125] = true by decide)]
  rw [can_mk (nm := []) h6 (by decide) (by simp [named]) ha (by simp)]; rfl
 by_cases h7 : x.op = 7
 ·rw [h7] at har
  obtain ⟨n, y, ys, ha⟩ := len2p (by simpa using har)
  have ht := t_rep h7 ha
  rw [ht] at hd
  have hd : s.drop a = 123 :: (txt n ++ 123 :: (txt y ++ (moreT ys ++ 125 :: 125 :: r))) := by rw [hd]; simp
  obtain ⟨hS, d1⟩ := see_1 hs hd (by decide) (by decide) (by decide)
  obtain ⟨j, rfl⟩ := hlev y (by rw [ha]; simp)
  obtain ⟨e0, S1, d2⟩ := rd_c hs (rd_of (hu n (by rw [ha]; simp) (j + 1) (by omega))) (by simp) d1
  have hf : ∃ d r', moreT ys ++ 125 :: 125 :: r = d :: r' ∧ d ∈ ([41, 93, 125, 44, 58, 123, 59] : List UInt8) := by
   cases ys with
   | nil => exact ⟨125, _, rfl, by simp⟩
   | cons y ys => exact ⟨44, _, rfl, by simp⟩
  obtain ⟨d, r', hdr, hdm⟩ := hf
  obtain ⟨e1, S2, _⟩ := rd_c hs (rd_of (hu y (by rw [ha]; simp) (j + 1) (by omega))) hdm (hdr ▸ d2)
  have d3 := drop_add d2
  have hln := drop_le d3
  have hml := more_le ys
  obtain ⟨e3, S3, d4⟩ := rest_all hs (.inr rfl) ys [can n, can y] (fuelR s) _ (125 :: r) (fun z hz => rd_of (hu z (by rw [ha]; simp [hz]) (j + 1) (by omega))) (by unfold fuelR; omega) d3
  obtain ⟨S4, _⟩ := see_1 hs d4 (by decide) (by decide) (by decide)
  have e : a + (txt x).length = a + 1 + (txt n).length + 1 + (txt y).length + (moreT ys).length + 1 + 1 := by rw [ht]; simp; omega
  rw [e]
  rw [una_pri hS (by decide), pri_br]
  unfold braF bra
  rw [e0]
  simp only []
  rw [sees_my S1, if_pos (by decide), sees_tk S1 (by decide), e1]
  unfold bra1 rsF
  simp only []
  rw [e3]
  simp only [sees_tk S3 (show hasT (pT [125]) [125] = true by decide), sees_tk S4 (show hasT (pT [125]) [125] = true by decide)]
  rw [can_mk (nm := []) h7 (by decide) (by simp [named]) ha (by simp)]; rfl
 by_cases h8 : x.op = 8
 ·have hid := ok.nm (by rw [h8]; rfl)
  rw [h8] at har
  obtain ⟨y, ys, ha⟩ := len1p (by simpa using har)
  have ht := t_call h8 ha
  rw [ht] at hd
  have hd : s.drop a = x.name ++ (40 :: (txt y ++ (moreT ys ++ 41 :: r))) := by rw [hd]; simp
  obtain ⟨hS, d0⟩ := see_id hs hd (aft_c (by decide)) hid
  obtain ⟨S1, d1⟩ := see_1 hs d0 (by decide) (by decide) (by decide)
  obtain ⟨j, rfl⟩ := hlev y (by rw [ha]; simp)
  have hf : ∃ d r', moreT ys ++ 41 :: r = d :: r' ∧ d ∈ ([41, 93, 125, 44, 58, 123, 59] : List UInt8) := by
   cases ys with
   | nil => exact ⟨41, r, rfl, by simp⟩
   | cons y ys => exact ⟨44, _, rfl, by simp⟩
  obtain ⟨d, r', hdr, hdm⟩ := hf
  obtain ⟨e1, S2, _⟩ := rd_c hs (rd_of (hu y (by rw [ha]; simp) (j + 1) (by omega))) hdm (hdr ▸ d1)
  have d2 := drop_add d1
  have hln := drop_le d2
  have hml := more_le ys
  obtain ⟨e3, S3, _⟩ := rest_all hs (.inl rfl) ys [can y] (fuelR s) _ r (fun z hz => rd_of (hu z (by rw [ha]; simp [hz]) (j + 1) (by omega))) (by unfold fuelR; omega) d2
  have e : a + (txt x).length = a + x.name.length + 1 + (txt y).length + (moreT ys).length + 1 := by rw [ht]; simp; omega
  rw [e]
  rw [una_pri hS rfl, pri_id, obj_call S1 e1]
  unfold callE rsF
  simp only []
  rw [e3]
  simp only [sees_tk S3 (show hasT (pT [41]) [41] = true by decide)]
  rw [can_mk (nm := x.name) h8 (by decide) (by simp [named]) ha (by simp)]; rfl
 by_cases h9 : x.op = 9
 ·have hsy := ok.sy h9
  unfold sysOk at hsy
  simp only [Bool.or_eq_true, Bool.and_eq_true, decide_eq_true_eq] at hsy
  rcases hsy with ⟨hn, ha⟩ | ⟨hn, ha⟩
  ·have ha : x.args = [] := by simpa using ha
   rw [t_sys0 h9 ha] at hd hno ⊢
   obtain ⟨hS, _⟩ := see_sys hs hd hr (by rw [hn]; simp)
   rw [una_pri hS rfl, pri_sys]
   unfold sysF
   rw [if_pos hn, can_eq, if_neg h1, h9, ha]; rfl
  ·obtain ⟨y, ha⟩ := len1 ha
   have ht := t_sys1 h9 ha
   rw [ht] at hd
   have hd : s.drop a = x.name ++ (40 :: (txt y ++ 41 :: r)) := by rw [hd]; simp
   obtain ⟨hS, d0⟩ := see_sys hs hd (aft_c (by decide)) (by rcases hn with hn | hn <;> rw [hn] <;> simp)
   obtain ⟨S1, d1⟩ := see_1 hs d0 (by decide) (by decide) (by decide)
   obtain ⟨j, rfl⟩ := hlev y (by rw [ha]; simp)
   obtain ⟨e1, S2, _⟩ := rd_c hs (rd_of (hu y (by rw [ha]; simp) (j + 1) (by omega))) (by simp) d1
   have e : a + (txt x).length = a + x.name.length + 1 + (txt y).length + 1 := by rw [ht]; simp; omega
   rw [e]
   rw [una_pri hS rfl, pri_sys]
   unfold sysF
   rw [if_neg (by rcases hn with hn | hn <;> rw [hn] <;> decide), if_pos hn, sees_tk S1 (by decide), e1]
   simp only [sees_tk S2 (show hasT (pT [41]) [41] = true by decide)]
   rw [can_mk (nm := x.name) h9 (by decide) (by simp [named]) ha (by simp)]; rfl
 by_cases h10 : x.op = 10
 ·rw [h10] at har
  obtain ⟨y, z, w, ha⟩ := len3 (by simpa using har)
  have ht := t_cond h10 ha
  rw [ht] at hd
  have hd : s.drop a = 40 :: (txt y ++ 32 :: 63 :: 32 :: (txt z ++ 32 :: 58 :: 32 :: (txt w ++ 41 :: r))) := by rw [hd]; simp
  have h2s : 1 ≤ (size y).2 := by rw [size_eq]; simp
  have h1s := (sizeL_mem x.args y (by rw [ha]; simp)).2
  obtain ⟨j, rfl⟩ : ∃ j, K = j + 1 + 1 := ⟨K - 2, by omega⟩
  obtain ⟨hS, d1⟩ := see_1 hs hd (by decide) (by decide) (by decide)
  have d2 := drop_add d1
  obtain ⟨S1, d3⟩ := see_1 hs (see_sp d2 rfl).2 (by decide) (by decide) (by decide)
  have S1 := sees_sp d2 rfl S1
  have e1 := hu y (by rw [ha]; simp) (j + 1 + 1) (by omega) _ _ d1 (aft_c (by decide)) (by rw [sees_pk S1]; decide)
  have d4 := (see_sp d3 rfl).2
  have d5 := drop_add d4
  obtain ⟨S2, d6⟩ := see_1 hs (see_sp d5 rfl).2 (by decide) (by decide) (by decide)
  have S2 := sees_sp d5 rfl S2
  have e2 := rd_of (hu z (by rw [ha]; simp) (j + 1) (by omega)) _ _ d4 (aft_c (by decide)) (by rw [sees_pk S2]; decide) (by rw [sees_pk S2]; decide)
  rw [← (lv_sp j d3 rfl).1] at e2
  have d7 := (see_sp d6 rfl).2
  obtain ⟨e3, S3, d8⟩ := rd_c hs (rd_of (hu w (by rw [ha]; simp) (j + 1) (by omega))) (by simp) d7
  rw [← (lv_sp j d6 rfl).1] at e3
  have e : a + (txt x).length = a + 1 + (txt y).length + 1 + 1 + 1 + (txt z).length + 1 + 1 + 1 + (txt w).length + 1 := by rw [ht]; simp; omega
  rw [e]
  rw [una_pri hS (by decide), pri_par, ex_cond e1 S1 e2 S2 e3]
  simp only [sees_tk S3 (show hasT (pT [41]) [41] = true by decide)]
  rw [can_mk (nm := []) h10 (by decide) (by simp [named]) ha (by simp)]; rfl
 have hlo : 11 ≤ x.op := by have := ok.o1; omega
 rw [if_neg (by omega), if_neg (by omega), if_neg (by omega), if_neg (by omega), if_neg (by omega), if_neg (by omega), if_neg (by omega)] at har
 by_cases hun : x.op < 21
 ·rw [if_pos hun] at har
  obtain ⟨y, ha⟩ := len1 (by simpa using har)
  have ht := t_un hlo hun ha
  rw [ht] at hd
  obtain ⟨u1, u2, u3, u4⟩ := un_sym x.op hun hlo
  have hd : s.drop a = 40 :: (unSym.getD (x.op - 11) [] ++ (txt y ++ 41 :: r)) := by rw [hd]; simp
  have h2s : 1 ≤ (size y).2 := by rw [size_eq]; simp
  have h1s := (sizeL_mem x.args y (by rw [ha]; simp)).2
  obtain ⟨j, rfl⟩ : ∃ j, K = j + 1 + 1 := ⟨K - 2, by omega⟩
  obtain ⟨hS, d1⟩ := see_1 hs hd (by decide) (by decide) (by decide)
  obtain ⟨c, q, hc1, hc2⟩ := txt_fc (hch y (by rw [ha]; simp))
  obtain ⟨S1, d2⟩ := see_p hs d1 u1 (fun c' r' he => by rw [hc1] at he; injection he with he _; subst he; exact fc_bad _ u3 hc2) (.inl u4)
  obtain ⟨S2, d3, E2, N2, A2⟩ := see_c hs (by simp) (drop_add d2)
  have e1 := hu y (by rw [ha]; simp) (j + 1) (by omega) _ _ d2 A2 N2
  have e2 := una_un (K := j + 1) S1 (by rw [u2]; omega)
  rw [u2, e1] at e2
  have e3 := ex_of e2 E2
  have e : a + (txt x).length = a + 1 + (unSym.getD (x.op - 11) []).length + (txt y).length + 1 := by rw [ht]; simp only [List.length_cons, List.length_append, List.length_nil]; omega
  rw [e]
  rw [una_pri hS (by decide), pri_par, e3]
  simp only [sees_tk S2 (show hasT (pT [41]) [41] = true by decide)]
  rw [can_mk (o := x.op) (nm := []) rfl (by omega) (by unfold named; simp; omega) ha (by simp)]; rfl
 ·rw [if_neg hun] at har
  obtain ⟨y, z, ha⟩ := len2 (by simpa using har)
  have ht := t_bin (by omega) ha
  rw [ht] at hd
  obtain ⟨u1, u2, u3, u4, u5, u6⟩ := bi_sym x.op (by have := ok.o2; omega) (by omega)
  have hd : s.drop a = 40 :: (txt y ++ 32 :: (biSym.getD (x.op - 21) [] ++ 32 :: (txt z ++ 41 :: r))) := by rw [hd]; simp
  obtain ⟨j, rfl⟩ := hlev y (by rw [ha]; simp)
  obtain ⟨hS, d1⟩ := see_1 hs hd (by decide) (by decide) (by decide)
  have d2 := drop_add d1
  have d3 := (see_sp d2 rfl).2
  obtain ⟨S1, d4⟩ := see_p hs d3 u1 (fun c' r' he => by injection he with he _; subst he; exact fc_bad _ u6 rfl) (.inr ⟨_, rfl⟩)
  have S1 := sees_sp d2 rfl S1
  have e1 := hu y (by rw [ha]; simp) (j + 1) (by omega) _ _ d1 (aft_c (by decide)) (by rw [sees_pk S1]; exact ⟨u4, u5⟩)
  have d5 := (see_sp d4 rfl).2
  obtain ⟨S2, d6, E2, N2, A2⟩ := see_c hs (by simp) (drop_add d5)
  have e2 := hu z (by rw [ha]; simp) (j + 1) (by omega) _ _ d5 A2 N2
  rw [← (lv_sp j d4 rfl).2] at e2
  have e3 := ex_bin e1 S1 (by rw [u2]; omega) (by rw [u2]; exact u3) e2 E2
  rw [u2] at e3
  have e : a + (txt x).length = a + 1 + (txt y).length + 1 + (biSym.getD (x.op - 21) []).length + 1 + (txt z).length + 1 := by rw [ht]; simp only [List.length_cons, List.length_append, List.length_nil]; omega
  rw [e]
  rw [una_pri hS (by decide), pri_par, e3]
  simp only [sees_tk S2 (show hasT (pT [41]) [41] = true by decide)]
  rw [can_mk (o := x.op) (nm := []) rfl (by omega) (by unfold named; simp; omega) ha (by simp)]; rfl
end Go.TM.R8
