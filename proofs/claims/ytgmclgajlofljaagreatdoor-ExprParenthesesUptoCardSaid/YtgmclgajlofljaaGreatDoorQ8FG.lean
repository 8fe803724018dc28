/- Literals: the character of a bit. -/
import Derived.Test.YtgmclgajlofljaaGreatDoorQ8FA
import Derived.Test.YtgmclgajlofljaaGreatDoorQ8A
set_option linter.all false
namespace Go.TM.R8
open Go Go.TM Go.Proofs Go.TM.A8
attribute [-simp] Int.natCast_add Int.natCast_mul List.drop_one
theorem rX_iaddrA {call : CallF} {om : FuncId → List Nat} {L : Nat} {dd : Option Nat} {s : Slots} {S : Store} {len sz : Nat} {x y : Operand} : evX call om L dd s S (.iaddrA len sz x y) = liftX S (two (iaddrAR len sz) (ev s x) (ev s y)) := by
 simp only [evX]
 cases ev s x with
 | none => rfl
 | some u => cases ev s y with
  | none => rfl
  | some v =>
   simp only [two]
   cases iaddrAR len sz u v <;> rfl
def gch : Nat → Nat
 | 0 => 48
 | 1 => 49
 | 2 => 120
 | _ => 122
theorem hex0 : idxST (.sc (str [48, 49, 50, 51, 52, 53, 54, 55, 56, 57, 97, 98, 99, 100, 101, 102])) (.sc (.int .i64 0)) = some (.sc (.int .u8 48)) := rfl
theorem hex1 : idxST (.sc (str [48, 49, 50, 51, 52, 53, 54, 55, 56, 57, 97, 98, 99, 100, 101, 102])) (.sc (.int .i64 1)) = some (.sc (.int .u8 49)) := rfl
theorem ia0 (k : IntKind) (l : Loc) : iaddrAR 4 1 (.ptr l 0) (.sc (.int k 0)) = some (.ptr l 0) := rfl
theorem ia1 (k : IntKind) (l : Loc) : iaddrAR 4 1 (.ptr l 0) (.sc (.int k 1)) = some (.ptr l 1) := rfl
theorem ia2 (k : IntKind) (l : Loc) : iaddrAR 4 1 (.ptr l 0) (.sc (.int k 2)) = some (.ptr l 2) := rfl
theorem ia3 (k : IntKind) (l : Loc) : iaddrAR 4 1 (.ptr l 0) (.sc (.int k 3)) = some (.ptr l 3) := rfl
theorem and0 : andI .i64 0 15 = 0 := rfl
theorem and1 : andI .i64 1 15 = 1 := rfl
theorem shl10 : binT .shl (.sc (.int .i64 1)) (.sc (.int .i64 0)) = some (.sc (.int .i64 1)) := rfl
theorem or01 : orI .i64 0 1 = 1 := rfl
attribute [local simp] rX_iaddrA ia0 ia1 ia2 ia3 hex0 hex1 and0 and1 shl10 or01
theorem c_group0 : callF E 0 f_literal_group [.lst 1 [.sc (.int .u8 0)]] emp = some (.sc (.int .u8 48), emp) := by
 (refine callF_light rfl pf_literal_group lf_literal_group (by simp [K_literal_group]) ?_; rw [evF_R, K_literal_group])
 simp (disch := omega) [*]
 (rw [Lp_eq]; rw (occs := .pos [1]) [K_literal_group_b0])
 simp (disch := omega) [*]
 (rw [Lp_eq]; rw (occs := .pos [1]) [K_literal_group_b0])
 simp (disch := omega) [*]
theorem c_group1 : callF E 0 f_literal_group [.lst 1 [.sc (.int .u8 1)]] emp = some (.sc (.int .u8 49), emp) := by
 (refine callF_light rfl pf_literal_group lf_literal_group (by simp [K_literal_group]) ?_; rw [evF_R, K_literal_group])
 simp (disch := omega) [*]
 (rw [Lp_eq]; rw (occs := .pos [1]) [K_literal_group_b0])
 simp (disch := omega) [*]
 (rw [Lp_eq]; rw (occs := .pos [1]) [K_literal_group_b0])
 simp (disch := omega) [*]
theorem c_group2 : callF E 0 f_literal_group [.lst 1 [.sc (.int .u8 2)]] emp = some (.sc (.int .u8 120), emp) := by
 (refine callF_light rfl pf_literal_group lf_literal_group (by simp [K_literal_group]) ?_; rw [evF_R, K_literal_group])
 simp (disch := omega) [*]
 (rw [Lp_eq]; rw (occs := .pos [1]) [K_literal_group_b0])
 simp (disch := omega) [*]
 (rw [Lp_eq]; rw (occs := .pos [1]) [K_literal_group_b0])
 simp (disch := omega) [*]
theorem c_group3 : callF E 0 f_literal_group [.lst 1 [.sc (.int .u8 3)]] emp = some (.sc (.int .u8 122), emp) := by
 (refine callF_light rfl pf_literal_group lf_literal_group (by simp [K_literal_group]) ?_; rw [evF_R, K_literal_group])
 simp (disch := omega) [*]
 (rw [Lp_eq]; rw (occs := .pos [1]) [K_literal_group_b0])
 simp (disch := omega) [*]
 (rw [Lp_eq]; rw (occs := .pos [1]) [K_literal_group_b0])
 simp (disch := omega) [*]
theorem c_group (x : Nat) (h : x ≤ 3) : callF E 0 f_literal_group [.lst 1 [.sc (.int .u8 (x : Int))]] emp = some (.sc (.int .u8 (gch x : Int)), emp) := by
 rcases (show x = 0 ∨ x = 1 ∨ x = 2 ∨ x = 3 by omega) with rfl | rfl | rfl | rfl
 ·exact c_group0
 ·exact c_group1
 ·exact c_group2
 ·exact c_group3
end Go.TM.R8
namespace Go.TM.R8
open Go Go.TM Go.Proofs Go.TM.A8
attribute [-simp] Int.natCast_add Int.natCast_mul List.drop_one
@[simp] theorem c_baseB : callF E 0 f_literal_baseOf [.sc (.int .u8 98)] emp = some (.tup [.agg [.sc (.int .i64 1), .sc (.int .i64 2)], .sc (.bool true)], emp) := by
 (refine callF_light rfl pf_literal_baseOf lf_literal_baseOf (by simp [K_literal_baseOf]) ?_; rw [evF_R, K_literal_baseOf])
 simp (disch := omega) [*]
theorem bytesU (l : List Nat) : bytesV (ul l) = some (l.map UInt8.ofNat) := by
 induction l with
 | nil => rfl
 | cons x l ih =>
  show (bytesV (ul l)).map (UInt8.ofNat ((x : Int)).toNat :: ·) = _
  rw [Int.toNat_natCast, ih]; rfl
theorem b2sU (S : Store) (l : List Nat) : b2sX S (some (some 1, ul l)) = some (.sc (str (l.map UInt8.ofNat))) := by
 show (bytesV (ul l)).map (fun bs => T.sc (.string ⟨bs.toArray⟩)) = _
 rw [bytesU]; rfl
def dbF (l : List Nat) (r : List Nat) (i : Nat) : List Nat := if i < l.length then dbF l (r.set (l.length - 1 - i) (gch (gn l i))) (i + 1) else r
 termination_by l.length - i
def dbS (l : List Nat) (sg : Bool) (r : List Nat) : Store := upd (upd (upd emp (1, 2) (.box 25 [.lst 1 (ul l), .sc (.bool sg)])) (1, 7) (.box 179 [.sc (.int .i64 1), .sc (.int .i64 2)])) (1, 42) (.arr false 0 1 5 (ul r))
theorem dt_one (l : List Nat) (i : Nat) (h : i < l.length) : List.drop i (List.take (i + 1) l) = [gn l i] := by
 rw [List.take_succ_eq_append_getElem h, List.drop_append_of_le_length (by simp; omega)]
 unfold gn
 rw [List.getD_eq_getElem?_getD, List.getElem?_eq_getElem h]
 simp
theorem l_Digits (l : List Nat) (sg : Bool) (r : List Nat) (i : Nat) (hl : l.length ≤ 128) (hr : r.length = l.length) (hv : ∀ j, j < l.length → gn l j ≤ 3) :
  Lp E 1 74 K_literal_Digits_h0 K_literal_Digits_b0.c ⟨[(2, .ptr (1, 2) 0), (7, .ptr (1, 7) 0), (9, .sc (.int .i64 l.length)), (10, .own (1, 42) 0 0 l.length), (44, .sc (.int .i64 l.length)), (45, .sc (.int .i64 i))], dbS l sg r⟩ =
   some (.exit 1, ⟨[(10, .own (1, 42) 0 0 l.length)], dbS l sg (dbF l r i)⟩) := by
 fun_induction dbF l r i <;> simp only [dbS] at *
 case case1 r i h1 ih =>
  have ih := ih (by simpa using hr)
  have hg := c_group (gn l i) (hv i h1)
  have ht := dt_one l i h1
  have h6 : i + 1 ≤ l.length := h1
  have h2 : i ≤ l.length - 1 := by omega
  have h3 : 1 ≤ l.length := by omega
  have h4 : l.length - 1 - i < l.length := by omega
  have h5 : l.length - 1 - i < r.length := by omega
  clear hv
  (rw [Lp_eq]; rw (occs := .pos [1]) [K_literal_Digits_b0])
  simp (disch := omega) [*]
 case case2 r i h1 =>
  (rw [Lp_eq]; rw (occs := .pos [1]) [K_literal_Digits_b0])
  simp (disch := omega) [*]
theorem chkF_all (l : List Nat) (i : Nat) (h : chkF l i = true) : ∀ j, i ≤ j → j < l.length → gn l j ≤ 3 := by
 fun_induction chkF l i
 case case1 i h1 h2 ih =>
  intro j h3 h4
  by_cases h5 : j = i
  ·subst h5; exact h2
  ·exact ih h j (by omega) h4
 case case2 => cases h
 case case3 i h1 => intro j h3 h4; omega
theorem chk_ok {l : List Nat} (h : chk l = 0) : 0 < l.length ∧ l.length ≤ 128 ∧ ∀ j, j < l.length → gn l j ≤ 3 := by
 unfold chk at h
 split at h
 ·cases h
 ·split at h
  ·cases h
  ·split at h
   ·rename_i h1 h2 h3
    exact ⟨by omega, by omega, fun j hj => chkF_all l 0 h3 j (by omega) hj⟩
   ·cases h
def dgB (l : List Nat) : List UInt8 := (l.map fun x => UInt8.ofNat (gch x)).reverse
theorem dbF_eq (l : List Nat) (r : List Nat) (i : Nat) (hr : r.length = l.length) (hi : i ≤ l.length) (h : r.drop (l.length - i) = ((l.take i).map gch).reverse) : dbF l r i = (l.map gch).reverse := by
 fun_induction dbF l r i
 case case1 r i h1 ih =>
  apply ih (by simpa using hr) h1
  have hk : l.length - (i + 1) = l.length - 1 - i := by omega
  rw [hk, List.drop_eq_getElem_cons (by simp; omega), List.getElem_set_self, List.drop_set_of_lt (by omega), show l.length - 1 - i + 1 = l.length - i by omega, h, List.map_take, List.map_take, List.take_succ_eq_append_getElem (by simpa using h1)]
  unfold gn
  rw [List.getD_eq_getElem?_getD, List.getElem?_eq_getElem h1]
  simp
 case case2 r i h1 =>
  have : i = l.length := by omega
  subst this
  simpa using h
theorem quo1 (n : Nat) (h : n < 2 ^ 62) : binT .quo (.sc (.int .i64 (n : Int))) (.sc (.int .i64 1)) = some (.sc (.int .i64 (n : Int))) := by
 simp only [binT, binS]
 rw [if_pos ⟨trivial, by decide⟩, Int.tdiv_one, wr_nat _ (by omega)]
theorem c_Digits (l : List Nat) (sg : Bool) (hl : chk l = 0) : callF E 0 f_literal_Digits [.agg [.lst 1 (ul l), .sc (.bool sg)], .sc (.int .u8 98)] emp = some (.tup [.sc (str (dgB l)), .sc (.int .i64 0)], emp) := by
 obtain ⟨h0, h1, hv⟩ := chk_ok hl
 have hc := c_Check false sg l (by omega)
 rw [hl] at hc
 simp only [vcT, gs_false] at hc
 have h := l_Digits l sg (List.replicate l.length 0) 0 h1 (by simp) hv
 rw [dbF_eq l _ 0 (by simp) (by omega) (by simp)] at h
 have hm := fun S => b2sU S ((l.map gch).reverse)
 have hd : dgB l = ((l.map gch).reverse).map UInt8.ofNat := by unfold dgB; simp
 rw [hd]
 have hq : ((l.map gch).reverse).length = l.length := by simp
 generalize (l.map gch).reverse = ds at *
 have k1 := quo1 l.length (by omega)
 have ht : List.take l.length ds = ds := List.take_of_length_le (by omega)
 simp only [dbS] at h
 try simp only [lenN, Int.cast_ofNat_Int] at *
 (refine callF_light rfl pf_literal_Digits lf_literal_Digits (by simp [K_literal_Digits]) ?_; rw [evF_R, K_literal_Digits])
 simp (disch := omega) [*]
end Go.TM.R8
namespace Go.TM.R8
open Go Go.TM Go.Proofs Go.TM.A8
attribute [-simp] Int.natCast_add Int.natCast_mul List.drop_one
def dig4 (b : UInt8) : Bool := b == 48 || b == 49 || b == 120 || b == 122
theorem idxAny_no : ∀ s : List UInt8, s.all dig4 = true → Lib.indexAny s [88, 90, 45] = -1
 | [], _ => rfl
 | b :: s, h => by
  rw [List.all_cons, Bool.and_eq_true] at h
  have ih := idxAny_no s h.2
  have : ([88, 90, 45] : List UInt8).contains b = false := by
   have := h.1
   simp only [dig4, Bool.or_eq_true, beq_iff_eq] at this
   rcases this with ((rfl | rfl) | rfl) | rfl <;> rfl
  rw [Lib.indexAny, this, ih]
  rfl
theorem asc_str (s : List UInt8) (h : s.all dig4 = true) : asc ⟨s.toArray⟩ = true := by
 unfold asc
 show s.all _ = true
 rw [List.all_eq_true] at h ⊢
 intro b hb
 have := h b hb
 simp only [dig4, Bool.or_eq_true, beq_iff_eq] at this
 rcases this with ((rfl | rfl) | rfl) | rfl <;> rfl
theorem c_CA (s : List UInt8) (h : s.all dig4 = true) (hl : s.length < 4294967281) : callF E 0 f_strings_ContainsAny [.sc (str s), .sc (str [88, 90, 45])] emp = some (.sc (.bool false), emp) := by
 refine callF_X (g := XCA) rfl ?_ rfl rfl rfl
 show (if _ then _ else _) = _
 rw [if_pos ⟨hl, by decide, asc_str s h, by decide⟩]
 show some (T.sc (.bool (decide (0 ≤ Lib.indexAny s [88, 90, 45])))) = _
 rw [idxAny_no s h]
 rfl
theorem c_Itoa (n : Nat) (h : n < 2 ^ 62) : callF E 0 f_strconv_Itoa [.sc (.int .i64 n)] emp = some (.sc (str (Lib.decDigits n)), emp) := by
 refine callF_X (g := XIT) rfl ?_ rfl rfl rfl
 show (if _ then _ else _) = _
 rw [if_pos ⟨by omega, by omega⟩]
 rfl
theorem c_FmtInt (n : Nat) (h : n < 2 ^ 62) : callF E 0 f_strconv_FormatInt [.sc (.int .i64 n), .sc (.int .i64 10)] emp = some (.sc (str (Lib.decDigits n)), emp) := by
 refine callF_X (g := XF2) rfl ?_ rfl rfl rfl
 show (if _ then _ else _) = _
 rw [if_pos ⟨by omega, by omega, rfl⟩]
 rfl
theorem dgB_all (l : List Nat) : (dgB l).all dig4 = true := by
 unfold dgB
 rw [List.all_eq_true]
 intro b hb
 simp at hb
 obtain ⟨x, _, rfl⟩ := hb
 match x with
 | 0 => rfl
 | 1 => rfl
 | 2 => rfl
 | n + 3 => rfl
theorem dgB_len (l : List Nat) : (dgB l).length = l.length := by unfold dgB; simp
theorem dec_len (n : Nat) : (Lib.decDigits n).length ≤ n + 1 := by
 fun_induction Lib.decDigits n
 case case1 => simp
 case case2 n h ih => simp; omega
def i2sY : Option T → Option T
 | some (.sc (.int _ a)) => some (.sc (.string (Utf8.encode a)))
 | _ => none
theorem rX_i2s {call : CallF} {om : FuncId → List Nat} {L : Nat} {dd : Option Nat} {s : Slots} {S : Store} {x : Operand} : evX call om L dd s S (.i2s x) = liftX S (i2sY (ev s x)) := by
 simp only [evX]
 cases ev s x with
 | none => rfl
 | some u => cases u with
  | sc v => cases v <;> rfl
  | _ => rfl
theorem i2s98 (k : IntKind) : i2sY (some (.sc (.int k 98))) = some (.sc (str [98])) := by
 show some (T.sc (.string (Utf8.encode 98))) = _
 have : Utf8.encode 98 = ⟨#[98]⟩ := by rfl
 rw [this]; rfl
def fmtB (l : List Nat) (sg : Bool) : List UInt8 := Lib.decDigits l.length ++ 39 :: ((if sg = true then [115] else []) ++ 98 :: dgB l)
theorem c_LFormat (l : List Nat) (sg : Bool) (hl : chk l = 0) : callF E 0 f_literal_Format [.agg [.lst 1 (ul l), .sc (.bool sg)], .sc (.int .u8 98)] emp = some (.tup [.sc (str (fmtB l sg)), .sc (.int .i64 0)], emp) := by
 obtain ⟨h0, h1, hv⟩ := chk_ok hl
 have hD := c_Digits l sg hl
 have hA := c_CA (dgB l) (dgB_all l) (by rw [dgB_len]; omega)
 have hI := c_Itoa l.length (by omega)
 have hq := dec_len l.length
 have hn := dgB_len l
 unfold fmtB
 generalize dgB l = d at *
 generalize Lib.decDigits l.length = q at *
 have k1 := bin_cat2 q [39] (by simp; omega)
 have k2 := bin_cat2 (q ++ [39]) [115] (by simp; omega)
 have k3 := bin_cat2 (q ++ [39]) [98] (by simp; omega)
 have k4 := bin_cat2 (q ++ [39, 98]) d (by simp; omega)
 have k5 := bin_cat2 (q ++ [39, 115]) [98] (by simp; omega)
 have k6 := bin_cat2 (q ++ [39, 115, 98]) d (by simp; omega)
 simp only [List.append_assoc, List.cons_append, List.nil_append] at k1 k2 k3 k4 k5 k6
 clear hv hl
 cases sg
 ·simp only [Bool.false_eq_true, if_false, List.nil_append]
  (refine callF_light rfl pf_literal_Format lf_literal_Format (by simp [K_literal_Format]) ?_; rw [evF_R, K_literal_Format])
  simp (disch := omega) [rX_i2s, i2s98, *]
 ·simp only [if_true, List.cons_append, List.nil_append]
  (refine callF_light rfl pf_literal_Format lf_literal_Format (by simp [K_literal_Format]) ?_; rw [evF_R, K_literal_Format])
  simp (disch := omega) [rX_i2s, i2s98, *]
end Go.TM.R8
namespace Go.TM.R8
open Go Go.TM Go.Proofs Go.TM.A8
attribute [-simp] Int.natCast_add Int.natCast_mul List.drop_one
theorem decB_lt (l : List Nat) (k n : Nat) {m : Nat} (h : decB l k n = some m) (hn : (n + 1) * 2 ^ k ≤ 2 ^ 31) : m < 2 ^ 31 := by
 fun_induction decB l k n
 case case1 n => simp only [Option.some.injEq] at h; subst h; simp at hn; omega
 case case2 k n h1 ih =>
  apply ih h
  have e : (n + 1) * 2 ^ (k + 1) = (2 * n + 2) * 2 ^ k := by
   rw [Nat.pow_succ, show 2 * n + 2 = (n + 1) * 2 by omega, Nat.mul_assoc, Nat.mul_comm 2]
  have e1 : (2 * n + gn l k + 1) * 2 ^ k ≤ (2 * n + 2) * 2 ^ k := Nat.mul_le_mul_right _ (by omega)
  rw [Nat.succ_eq_add_one, e] at hn
  omega
 case case3 => cases h
theorem decV_lt {l : List Nat} {sg : Bool} {m : Nat} (h : decV l sg = some m) : m < 2 ^ 31 := by
 unfold decV at h
 split at h
 ·exact decB_lt l 31 0 h (by decide)
 ·cases h
def tupS (p : List UInt8 × Nat) : T := .tup [.sc (str p.1), .sc (.int .i64 (p.2 : Int))]
def numF (l : List Nat) (sg : Bool) : List UInt8 × Nat :=
 if chk l = 0 then (match decV l sg with | some n => (Lib.decDigits n, 0) | none => (fmtB l sg, 0)) else ([], chk l)
theorem chk_lst {l : List Nat} (b : Bool) (h : chk l = 0) : gs b 1 (ul l) = .lst 1 (ul l) := by
 cases l with
 | nil => exact absurd (chk_ok h).1 (by simp)
 | cons x l => exact gs_cons b 1 _ _
theorem c_number (b sg : Bool) (l : List Nat) (hl : l.length < 2 ^ 62) : callF E 0 f_token_number [vcT b l sg] emp = some (tupS (numF l sg), emp) := by
 have hC := c_Check b sg l hl
 have hD := c_decimal b sg l hl
 unfold numF
 by_cases hk : chk l = 0
 ·rw [if_pos hk]
  have hF := c_LFormat l sg hk
  simp only [vcT, chk_lst b hk] at hC hD ⊢
  rw [hk] at hC
  cases hd : decV l sg with
  | some n =>
   rw [hd] at hD
   have hI := c_FmtInt n (by have := decV_lt hd; omega)
   simp only [decT, tupS] at hD ⊢
   clear hd hF hk
   (refine callF_light rfl pf_token_number lf_token_number (by simp [K_token_number]) ?_; rw [evF_R, K_token_number])
   simp (disch := omega) [*]
  | none =>
   rw [hd] at hD
   simp only [decT, tupS] at hD ⊢
   clear hd hk
   (refine callF_light rfl pf_token_number lf_token_number (by simp [K_token_number]) ?_; rw [evF_R, K_token_number])
   simp (disch := omega) [*]
 ·rw [if_neg hk]
  have hk : decide (chk l = 0) = false := by simpa using hk
  generalize chk l = c at *
  simp only [vcT, tupS] at hC hD ⊢
  clear hD
  (refine callF_light rfl pf_token_number lf_token_number (by simp [K_token_number]) ?_; rw [evF_R, K_token_number])
  simp (disch := omega) [*]
end Go.TM.R8
namespace Go.TM.R8
open Go Go.TM Go.Proofs Go.TM.A8
attribute [-simp] Int.natCast_add Int.natCast_mul List.drop_one
theorem numF_ok (l : List Nat) (sg : Bool) (h : chk l = 0) : (numF l sg).2 = 0 := by
 unfold numF
 rw [if_pos h]
 split <;> rfl
theorem c_FmtId (s : List UInt8) (hs : s.length < 100000000) : callF E 0 f_token_Format [.agg [.sc (.int .u8 1), .sc (str s), .sc (.slice none 0 0), .sc (.bool false)]] emp =
  some (.tup [.sc (str (if (whole s 0 && !keyword s) = true then s else [])), .sc (.int .i64 (if (whole s 0 && !keyword s) = true then 0 else 3))], emp) := by
 have hw := c_whole0 s (by omega)
 cases hww : whole s 0 <;> rw [hww] at hw <;> cases hkk : keyword s
 all_goals have hk := c_IsKeyword s
 all_goals rw [hkk] at hk
 all_goals simp only [Bool.and_true, Bool.and_false, Bool.false_and, Bool.not_true, Bool.not_false, Bool.false_eq_true, if_true, if_false]
 all_goals clear hww hkk
 all_goals (refine callF_light rfl pf_token_Format lf_token_Format (by simp [K_token_Format]) ?_; rw [evF_R, K_token_Format])
 all_goals simp (disch := omega) [-c_IsKeyword, *]
theorem c_FmtNum (b sg : Bool) (l : List Nat) (h : chk l = 0) : callF E 0 f_token_Format [.agg [.sc (.int .u8 4), .sc (str []), gs b 1 (ul l), .sc (.bool sg)]] emp =
  some (.tup [.sc (str (numF l sg).1), .sc (.int .i64 0)], emp) := by
 have hn := c_number b sg l (by have := (chk_ok h).2.1; omega)
 have h0 := numF_ok l sg h
 generalize numF l sg = p at *
 simp only [vcT, tupS, h0, Int.cast_ofNat_Int] at hn ⊢
 clear h h0
 (refine callF_light rfl pf_token_Format lf_token_Format (by simp [K_token_Format]) ?_; rw [evF_R, K_token_Format])
 simp (disch := omega) [*]
end Go.TM.R8
