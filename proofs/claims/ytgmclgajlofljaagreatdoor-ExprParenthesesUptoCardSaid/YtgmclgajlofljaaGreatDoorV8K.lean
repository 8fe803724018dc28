/- Expressions: what follows a name; system functions. -/
import Derived.Test.YtgmclgajlofljaaGreatDoorV8F
import Derived.Test.YtgmclgajlofljaaGreatDoorV8B
import Derived.Test.YtgmclgajlofljaaGreatDoorR8V
set_option linter.all false
namespace Go.TM.R8
open Go Go.TM Go.Proofs Go.TM.A8
attribute [-simp] Int.natCast_add Int.natCast_mul List.drop_one
def XN (s : List UInt8) (f : FuncId) (d : Nat) (fn : List UInt8 → PF) : Prop := ∀ (x : List UInt8) (p : PS) (S : Store) (k : Nat), trunc (k + 1) S = S →
 callF E (k + 1) f [.ptr (1, 11) 0, .sc (str x), .sc (.int .i64 (d : Int))] (PSt s p S) = some ((fn x p).1.t, PSt s (fn x p).2 S)
theorem c_psystem (s : List UInt8) (d : Nat) (fx : PF) (hx : XC s f_expr_parser_expr d fx) : XN s f_expr_parser_system d (sysF s fx) := by
 intro x p S k hS
 (have hn : ∀ d, S (k + 2, d) = none := fun d => lk_none hS d); (have hm : ∀ kl S0, maskT (k + 2) kl S0 S = S := fun kl S0 => lk_mask hS kl S0); (have ht : trunc (k + 2) S = S := lk_trunc hS); (have hr : ∀ d, setRo S [(k + 2, d)] = S := fun d => lk_ro hS d)
 unfold sysF
 by_cases h1 : x = sTime
 ·rw [if_pos h1, refE_t]
  subst h1
  clear hx
  unfold PSt sTime
  try simp only [lenN, Int.cast_ofNat_Int] at *
  (refine callF_light rfl pf_expr_parser_system lf_expr_parser_system (by simp [K_expr_parser_system]) ?_; rw [evF_R, K_expr_parser_system]; simp only [k11])
  simp (disch := omega) [*]
 ·rw [if_neg h1]
  by_cases h2 : x = sSig ∨ x = sUns
  ·rw [if_pos h2]
   have ht := c_take s [40] p S k hS
   generalize tkF s [40] p = q at *
   have he := hx q S k hS
   generalize fx q = r at *
   have ht1 := c_take s [41] r.2 S k hS
   generalize tkF s [41] r.2 = q2 at *
   rw [mkE_t, ml1]
   clear hx h1
   unfold PSt at *
   rcases h2 with rfl | rfl
   ·unfold sSig
    try simp only [lenN, Int.cast_ofNat_Int] at *
    (refine callF_light rfl pf_expr_parser_system lf_expr_parser_system (by simp [K_expr_parser_system]) ?_; rw [evF_R, K_expr_parser_system]; simp only [k11])
    simp (disch := omega) [*]
   ·unfold sUns
    try simp only [lenN, Int.cast_ofNat_Int] at *
    (refine callF_light rfl pf_expr_parser_system lf_expr_parser_system (by simp [K_expr_parser_system]) ?_; rw [evF_R, K_expr_parser_system]; simp only [k11])
    simp (disch := omega) [*]
  ·rw [if_neg h2, refE_t]
   have h1 : decide (x = [36, 116, 105, 109, 101]) = false := by simpa [sTime] using h1
   have h3 : decide (x = [36, 115, 105, 103, 110, 101, 100]) = false := by
    have : ¬ x = sSig := fun e => h2 (.inl e)
    simpa [sSig] using this
   have h4 : decide (x = [36, 117, 110, 115, 105, 103, 110, 101, 100]) = false := by
    have : ¬ x = sUns := fun e => h2 (.inr e)
    simpa [sUns] using this
   clear hx h2
   unfold PSt
   try simp only [lenN, Int.cast_ofNat_Int] at *
   (refine callF_light rfl pf_expr_parser_system lf_expr_parser_system (by simp [K_expr_parser_system]) ?_; rw [evF_R, K_expr_parser_system]; simp only [k11])
   simp (disch := omega) [*]
theorem c_object (s : List UInt8) (d : Nat) (fx : PF) (hx : XC s f_expr_parser_expr d fx) (hmo : Mo s fx) (hs : s.length ≤ 65536) : XN s f_expr_parser_object d (objF s fx) := by
 intro x p S k hS
 (have hn : ∀ d, S (k + 2, d) = none := fun d => lk_none hS d); (have hm : ∀ kl S0, maskT (k + 2) kl S0 S = S := fun kl S0 => lk_mask hS kl S0); (have ht : trunc (k + 2) S = S := lk_trunc hS); (have hr : ∀ d, setRo S [(k + 2, d)] = S := fun d => lk_ro hS d)
 unfold objF
 have hm1 := c_may s [40] p S k hS
 unfold mayF at hm1
 by_cases hb : myB s [40] p = true
 ·rw [if_pos hb]
  rw [hb, if_pos rfl] at hm1
  generalize tkF s [40] p = q at *
  have h2 := hx q S k hS
  generalize fx q = r at *
  unfold callE rsF
  have hrs := fun (S' : Store) (hS' : trunc (k + 2) S' = S') => c_rest s d fx hx hmo [r.1] r.2 0 S' k 18 hS' (by unfold fuelR; simp; omega)
  have hlen := rest_len s fx (fuelR s) [r.1] r.2
  generalize restF s fx (fuelR s) [r.1] r.2 = w at *
  simp only [RW, ml1, List.length_cons, List.length_nil, Nat.zero_add] at hrs hlen
  have ht1 := c_take s [41] w.2 S k hS
  generalize tkF s [41] w.2 = q1 at *
  rw [mkE_t]
  have hl2 : w.1.length ≤ 999999999 := by have := hlen.2; unfold fuelR at this; omega
  clear hx hmo hb hlen
  unfold PSt at *
  try simp only [lenN, Int.cast_ofNat_Int] at *
  (refine callF_light rfl pf_expr_parser_object lf_expr_parser_object (by simp [K_expr_parser_object]) ?_; rw [evF_R, K_expr_parser_object]; simp only [k11])
  simp (disch := first | omega | (simp only [trunc_k2, *]; done)) [*]
 ·rw [if_neg hb]
  have hb2 : myB s [40] p = false := by simpa using hb
  rw [hb2, if_neg (by decide)] at hm1
  clear hb hb2
  have hm2 := c_may s [91] p S k hS
  unfold mayF at hm2
  by_cases hb : myB s [91] p = true
  ·rw [if_pos hb]
   rw [hb, if_pos rfl] at hm2
   generalize tkF s [91] p = q at *
   have h2 := hx q S k hS
   generalize fx q = r at *
   clear hb
   unfold selE
   have hm3 := c_may s [58] r.2 S k hS
   unfold mayF at hm3
   by_cases hb : myB s [58] r.2 = true
   ·rw [if_pos hb]
    rw [hb, if_pos rfl] at hm3
    generalize tkF s [58] r.2 = q1 at *
    have h4 := hx q1 S k hS
    generalize fx q1 = r1 at *
    unfold two
    have h5 := c_take s [93] r1.2 S k hS
    generalize tkF s [93] r1.2 = q2 at *
    rw [mkE_t, ml2]
    clear hx hmo hb
    unfold PSt at *
    try simp only [lenN, Int.cast_ofNat_Int] at *
    (refine callF_light rfl pf_expr_parser_object lf_expr_parser_object (by simp [K_expr_parser_object]) ?_; rw [evF_R, K_expr_parser_object]; simp only [k11])
    simp (disch := omega) [*]
   ·rw [if_neg hb]
    have hb2 : myB s [58] r.2 = false := by simpa using hb
    rw [hb2, if_neg (by decide)] at hm3
    clear hb hb2
    have hm4 := c_may s [43, 58] r.2 S k hS
    unfold mayF at hm4
    by_cases hb : myB s [43, 58] r.2 = true
    ·rw [if_pos hb]
     rw [hb, if_pos rfl] at hm4
     generalize tkF s [43, 58] r.2 = q1 at *
     have h4 := hx q1 S k hS
     generalize fx q1 = r1 at *
     unfold two
     have h5 := c_take s [93] r1.2 S k hS
     generalize tkF s [93] r1.2 = q2 at *
     rw [mkE_t, ml2]
     clear hx hmo hb
     unfold PSt at *
     try simp only [lenN, Int.cast_ofNat_Int] at *
     (refine callF_light rfl pf_expr_parser_object lf_expr_parser_object (by simp [K_expr_parser_object]) ?_; rw [evF_R, K_expr_parser_object]; simp only [k11])
     simp (disch := omega) [*]
    ·rw [if_neg hb]
     have hb2 : myB s [43, 58] r.2 = false := by simpa using hb
     rw [hb2, if_neg (by decide)] at hm4
     clear hb hb2
     have h3 := c_take s [93] r.2 S k hS
     generalize tkF s [93] r.2 = q0 at *
     unfold sel1
     have hm5 := c_may s [91] q0 S k hS
     unfold mayF at hm5
     by_cases hb : myB s [91] q0 = true
     ·rw [if_pos hb]
      rw [hb, if_pos rfl] at hm5
      generalize tkF s [91] q0 = q1 at *
      have h4 := hx q1 S k hS
      generalize fx q1 = r1 at *
      unfold two
      have h5 := c_take s [93] r1.2 S k hS
      generalize tkF s [93] r1.2 = q2 at *
      rw [mkE_t, ml2]
      clear hx hmo hb
      unfold PSt at *
      try simp only [lenN, Int.cast_ofNat_Int] at *
      (refine callF_light rfl pf_expr_parser_object lf_expr_parser_object (by simp [K_expr_parser_object]) ?_; rw [evF_R, K_expr_parser_object]; simp only [k11])
      simp (disch := omega) [*]
     ·rw [if_neg hb]
      have hb2 : myB s [91] q0 = false := by simpa using hb
      rw [hb2, if_neg (by decide)] at hm5
      rw [mkE_t, ml1]
      clear hx hmo hb hb2
      unfold PSt at *
      try simp only [lenN, Int.cast_ofNat_Int] at *
      (refine callF_light rfl pf_expr_parser_object lf_expr_parser_object (by simp [K_expr_parser_object]) ?_; rw [evF_R, K_expr_parser_object]; simp only [k11])
      simp (disch := omega) [*]
  ·rw [if_neg hb]
   have hb2 : myB s [91] p = false := by simpa using hb
   rw [hb2, if_neg (by decide)] at hm2
   rw [refE_t]
   clear hx hmo hb hb2
   unfold PSt at *
   try simp only [lenN, Int.cast_ofNat_Int] at *
   (refine callF_light rfl pf_expr_parser_object lf_expr_parser_object (by simp [K_expr_parser_object]) ?_; rw [evF_R, K_expr_parser_object]; simp only [k11])
   simp (disch := omega) [*]
end Go.TM.R8
namespace Go.TM.R8
open Go Go.TM Go.Proofs Go.TM.A8
attribute [-simp] Int.natCast_add Int.natCast_mul List.drop_one
theorem wr8 {o : Nat} (h : o < 200) : IntKind.u8.wrap ((o : Int) + 1) = ((o + 1 : Nat) : Int) := by
 rw [show ((o : Int) + 1) = ((o + 1 : Nat) : Int) by omega]
 unfold IntKind.wrap
 have : (IntKind.u8).bits = 8 := rfl
 simp [this, IntKind.signed]
 omega
def scan (tab : List (List UInt8)) (b m : Nat) (x : List UInt8) (o : Nat) : Nat := if o < m then (if tab.getD (o - b) [] = x then o else scan tab b m x (o + 1)) else 0
 termination_by m - o
theorem scan_eq (tab : List (List UInt8)) (b m : Nat) (x : List UInt8) (o : Nat) (ho : b ≤ o) (hm : m = b + tab.length) : scan tab b m x o = opOf o x (tab.drop (o - b)) := by
 fun_induction scan tab b m x o with
 | case1 o h h2 =>
  rw [List.drop_eq_getElem_cons (by omega), opOf, if_pos]
  rw [← h2, List.getD_eq_getElem?_getD, List.getElem?_eq_getElem (by omega)]; rfl
 | case2 o h h2 ih =>
  rw [ih (by omega), List.drop_eq_getElem_cons (show o - b < tab.length by omega), opOf, if_neg, show o + 1 - b = o - b + 1 by omega]
  intro e; apply h2
  rw [List.getD_eq_getElem?_getD, List.getElem?_eq_getElem (by omega)]; exact e
 | case3 o h => rw [List.drop_eq_nil_of_le (by omega), opOf]
theorem un_scan (x : List UInt8) : scan unSym 11 21 x 11 = opOf 11 x unSym := scan_eq _ _ _ _ _ (Nat.le_refl _) rfl
theorem bi_scan (x : List UInt8) : scan biSym 21 45 x 21 = opOf 21 x biSym := scan_eq _ _ _ _ _ (Nat.le_refl _) rfl
def scX (r : Nat) : Ex × St := if r = 0 then (.exit 0, ⟨[], emp⟩) else (.ret, ⟨[(2, .sc (.int .u8 (r : Int)))], emp⟩)
theorem l_unaryOp (x : List UInt8) (o : Nat) (ho : 11 ≤ o) :
  Lp E 1 13 K_expr_unaryOp_h0 K_expr_unaryOp_b0.c ⟨[(0, .sc (str x)), (3, .sc (.int .u8 (o : Int)))], emp⟩ = some (scX (scan unSym 11 21 x o)) := by
 fun_induction scan unSym 11 21 x o with
 | case1 o h h2 =>
  have hs := (sym_un o ho h).1
  rw [h2] at hs
  have h3 : ¬ o = 0 := by omega
  unfold scX
  rw [if_neg h3]
  clear h2 h3
  try simp only [lenN, Int.cast_ofNat_Int] at *
  (rw [Lp_eq]; rw (occs := .pos [1]) [K_expr_unaryOp_b0])
  simp (disch := omega) [*]
 | case2 o h h2 ih =>
  have hs := (sym_un o ho h).1
  have ih := ih (by omega)
  have hw := wr8 (show o < 200 by omega)
  have h2 : decide (unSym.getD (o - 11) [] = x) = false := by simpa using h2
  generalize unSym.getD (o - 11) [] = y at *
  generalize scX (scan unSym 11 21 x (o + 1)) = r at *
  try simp only [lenN, Int.cast_ofNat_Int] at *
  (rw [Lp_eq]; rw (occs := .pos [1]) [K_expr_unaryOp_b0])
  simp (disch := omega) [*]
 | case3 o h =>
  unfold scX
  try simp only [lenN, Int.cast_ofNat_Int] at *
  (rw [Lp_eq]; rw (occs := .pos [1]) [K_expr_unaryOp_b0])
  simp (disch := omega) [*]
theorem l_binaryOp (x : List UInt8) (o : Nat) (ho : 21 ≤ o) :
  Lp E 1 13 K_expr_binaryOp_h0 K_expr_binaryOp_b0.c ⟨[(0, .sc (str x)), (3, .sc (.int .u8 (o : Int)))], emp⟩ = some (scX (scan biSym 21 45 x o)) := by
 fun_induction scan biSym 21 45 x o with
 | case1 o h h2 =>
  have h4 : decide (o ≤ 44) = true := decide_eq_true (by omega)
  have hs := (sym_bi o ho (by omega)).1
  rw [h2] at hs
  have h3 : ¬ o = 0 := by omega
  unfold scX
  rw [if_neg h3]
  clear h2 h3
  try simp only [lenN, Int.cast_ofNat_Int] at *
  (rw [Lp_eq]; rw (occs := .pos [1]) [K_expr_binaryOp_b0])
  simp (disch := omega) [*]
 | case2 o h h2 ih =>
  have h4 : decide (o ≤ 44) = true := decide_eq_true (by omega)
  have hs := (sym_bi o ho (by omega)).1
  have ih := ih (by omega)
  have hw := wr8 (show o < 200 by omega)
  have h2 : decide (biSym.getD (o - 21) [] = x) = false := by simpa using h2
  generalize biSym.getD (o - 21) [] = y at *
  generalize scX (scan biSym 21 45 x (o + 1)) = r at *
  try simp only [lenN, Int.cast_ofNat_Int] at *
  (rw [Lp_eq]; rw (occs := .pos [1]) [K_expr_binaryOp_b0])
  simp (disch := omega) [*]
 | case3 o h =>
  have h4 : decide (o ≤ 44) = false := decide_eq_false (by omega)
  unfold scX
  try simp only [lenN, Int.cast_ofNat_Int] at *
  (rw [Lp_eq]; rw (occs := .pos [1]) [K_expr_binaryOp_b0])
  simp (disch := omega) [*]
theorem c_unaryOp (x : List UInt8) : callF E 0 f_expr_unaryOp [.sc (str x)] emp = some (.sc (.int .u8 (opOf 11 x unSym : Int)), emp) := by
 have h := l_unaryOp x 11 (by omega)
 rw [un_scan] at h
 generalize opOf 11 x unSym = r at *
 unfold scX at h
 by_cases h0 : r = 0
 ·rw [if_pos h0] at h
  subst h0
  try simp only [lenN, Int.cast_ofNat_Int] at *
  (refine callF_light rfl pf_expr_unaryOp lf_expr_unaryOp (by simp [K_expr_unaryOp]) ?_; rw [evF_R, K_expr_unaryOp])
  simp (disch := omega) [*]
 ·rw [if_neg h0] at h
  clear h0
  try simp only [lenN, Int.cast_ofNat_Int] at *
  (refine callF_light rfl pf_expr_unaryOp lf_expr_unaryOp (by simp [K_expr_unaryOp]) ?_; rw [evF_R, K_expr_unaryOp])
  simp (disch := omega) [*]
theorem c_binaryOp (x : List UInt8) : callF E 0 f_expr_binaryOp [.sc (str x)] emp = some (.sc (.int .u8 (opOf 21 x biSym : Int)), emp) := by
 have h := l_binaryOp x 21 (by omega)
 rw [bi_scan] at h
 generalize opOf 21 x biSym = r at *
 unfold scX at h
 by_cases h0 : r = 0
 ·rw [if_pos h0] at h
  subst h0
  try simp only [lenN, Int.cast_ofNat_Int] at *
  (refine callF_light rfl pf_expr_binaryOp lf_expr_binaryOp (by simp [K_expr_binaryOp]) ?_; rw [evF_R, K_expr_binaryOp])
  simp (disch := omega) [*]
 ·rw [if_neg h0] at h
  clear h0
  try simp only [lenN, Int.cast_ofNat_Int] at *
  (refine callF_light rfl pf_expr_binaryOp lf_expr_binaryOp (by simp [K_expr_binaryOp]) ?_; rw [evF_R, K_expr_binaryOp])
  simp (disch := omega) [*]
set_option maxHeartbeats 2000000 in
theorem c_level (o : Nat) : callF E 0 f_expr_level [.sc (.int .u8 (o : Int))] emp = some (.sc (.int .i64 (levelF o : Int)), emp) := by
 (refine callF_light rfl pf_expr_level lf_expr_level (by simp [K_expr_level]) ?_; rw [evF_R, K_expr_level])
 (try simp (disch := omega) [levelF, *]) <;> repeat' ((first | rw [RC_d] | rw [RG_d] | rw [RG_e] | rw [RC_b] | rw [RG_x] | rw [RG_y] | skip); split <;> (try (exfalso; omega)) <;> try simp (disch := omega) [levelF, *])
end Go.TM.R8
namespace Go.TM.R8
open Go Go.TM Go.Proofs Go.TM.A8
attribute [-simp] Int.natCast_add Int.natCast_mul List.drop_one
theorem c_primary (s : List UInt8) (d : Nat) (hd : d ≤ 129) (fx : PF) (hx : XC s f_expr_parser_expr (d + 1) fx) (hmo : Mo s fx) (hs : s.length ≤ 65536) : XC s f_expr_parser_primary d (priF s fx) := by
 intro p S k hS
 (have hn : ∀ d, S (k + 2, d) = none := fun d => lk_none hS d); (have hm : ∀ kl S0, maskT (k + 2) kl S0 S = S := fun kl S0 => lk_mask hS kl S0); (have ht : trunc (k + 2) S = S := lk_trunc hS); (have hr : ∀ d, setRo S [(k + 2, d)] = S := fun d => lk_ro hS d)
 unfold priF
 have hn1 := c_next s p S k hS
 generalize (nxF s p).1 = t at *
 generalize (nxF s p).2 = q at *
 unfold Tk.t Tk.cs at hn1
 unfold priT
 by_cases h0 : q.e = 0
 ·rw [if_neg (by omega)]
  obtain ⟨qa, qe⟩ := q
  obtain rfl : qe = 0 := h0
  by_cases h4 : t.k = 4
  ·rw [if_pos h4, litE_t]
   rw [h4] at hn1
   clear hx hmo h4
   unfold PSt at *
   try simp only [lenN, Int.cast_ofNat_Int] at *
   (refine callF_light rfl pf_expr_parser_primary lf_expr_parser_primary (by simp [K_expr_parser_primary]) ?_; rw [evF_R, K_expr_parser_primary]; simp only [k11])
   simp (disch := omega) [*]
  ·rw [if_neg h4]
   by_cases h1 : t.k = 1
   ·rw [if_pos h1]
    have ho := c_object s (d + 1) fx hx hmo hs t.tx ⟨qa, 0⟩ S k hS
    generalize objF s fx t.tx ⟨qa, 0⟩ = r at *
    rw [h1] at hn1
    clear hx hmo h4 h1
    unfold PSt at *
    try simp only [lenN, Int.cast_ofNat_Int] at *
    (refine callF_light rfl pf_expr_parser_primary lf_expr_parser_primary (by simp [K_expr_parser_primary]) ?_; rw [evF_R, K_expr_parser_primary]; simp only [k11])
    simp (disch := omega) [*]
   ·rw [if_neg h1]
    by_cases h3 : t.k = 3
    ·rw [if_pos h3]
     have ho := c_psystem s (d + 1) fx hx t.tx ⟨qa, 0⟩ S k hS
     generalize sysF s fx t.tx ⟨qa, 0⟩ = r at *
     rw [h3] at hn1
     clear hx hmo h4 h1 h3
     unfold PSt at *
     try simp only [lenN, Int.cast_ofNat_Int] at *
     (refine callF_light rfl pf_expr_parser_primary lf_expr_parser_primary (by simp [K_expr_parser_primary]) ?_; rw [evF_R, K_expr_parser_primary]; simp only [k11])
     simp (disch := omega) [*]
    ·rw [if_neg h3]
     by_cases h6 : t.k = 6
     ·rw [h6] at hn1
      by_cases hp : t.tx = [40]
      ·rw [if_pos ⟨h6, hp⟩]
       have ho := hx ⟨qa, 0⟩ S k hS
       generalize fx ⟨qa, 0⟩ = r at *
       have ht1 := c_take s [41] r.2 S k hS
       generalize tkF s [41] r.2 = q2 at *
       rw [hp] at hn1
       clear hx hmo h4 h1 h3 h6 hp
       unfold PSt at *
       try simp only [lenN, Int.cast_ofNat_Int] at *
       (refine callF_light rfl pf_expr_parser_primary lf_expr_parser_primary (by simp [K_expr_parser_primary]) ?_; rw [evF_R, K_expr_parser_primary]; simp only [k11])
       simp (disch := omega) [*]
      ·rw [if_neg (fun h => hp h.2)]
       by_cases hb : t.tx = [123]
       ·rw [if_pos ⟨h6, hb⟩]
        have ho := c_braces s (d + 1) fx hx hmo hs ⟨qa, 0⟩ S k hS
        generalize braF s fx ⟨qa, 0⟩ = r at *
        rw [hb] at hn1
        clear hx hmo h4 h1 h3 h6 hp hb
        unfold PSt at *
        try simp only [lenN, Int.cast_ofNat_Int] at *
        (refine callF_light rfl pf_expr_parser_primary lf_expr_parser_primary (by simp [K_expr_parser_primary]) ?_; rw [evF_R, K_expr_parser_primary]; simp only [k11])
        simp (disch := omega) [*]
       ·rw [if_neg (fun h => hb h.2), zE_t]
        have hp : decide (t.tx = [40]) = false := by simpa using hp
        have hb : decide (t.tx = [123]) = false := by simpa using hb
        clear hx hmo h4 h1 h3 h6
        unfold PSt at *
        try simp only [lenN, Int.cast_ofNat_Int] at *
        (refine callF_light rfl pf_expr_parser_primary lf_expr_parser_primary (by simp [K_expr_parser_primary]) ?_; rw [evF_R, K_expr_parser_primary]; simp only [k11])
        simp (disch := omega) [*]
     ·rw [if_neg (fun h => h6 h.1), if_neg (fun h => h6 h.1), zE_t]
      clear hx hmo
      unfold PSt at *
      try simp only [lenN, Int.cast_ofNat_Int] at *
      (refine callF_light rfl pf_expr_parser_primary lf_expr_parser_primary (by simp [K_expr_parser_primary]) ?_; rw [evF_R, K_expr_parser_primary]; simp only [k11])
      simp (disch := omega) [*]
 ·rw [if_pos h0, zE_t]
  clear hx hmo
  unfold PSt at *
  try simp only [lenN, Int.cast_ofNat_Int] at *
  (refine callF_light rfl pf_expr_parser_primary lf_expr_parser_primary (by simp [K_expr_parser_primary]) ?_; rw [evF_R, K_expr_parser_primary]; simp only [k11])
  simp (disch := omega) [*]
theorem c_unary (s : List UInt8) (d : Nat) (hd : d ≤ 128) (fx fu : PF) (hx : XC s f_expr_parser_expr (d + 1) fx) (hu : XC s f_expr_parser_unary (d + 1) fu) (hmo : Mo s fx) (hs : s.length ≤ 65536) : XC s f_expr_parser_unary d (fuS s fx fu) := by
 intro p S k hS
 (have hn : ∀ d, S (k + 2, d) = none := fun d => lk_none hS d); (have hm : ∀ kl S0, maskT (k + 2) kl S0 S = S := fun kl S0 => lk_mask hS kl S0); (have ht : trunc (k + 2) S = S := lk_trunc hS); (have hr : ∀ d, setRo S [(k + 2, d)] = S := fun d => lk_ro hS d)
 have hen := c_enter s p S k hS d (by omega)
 have e1 : entF (129 - d) p = p := by unfold entF; rw [if_neg (by omega)]
 rw [e1] at hen
 unfold fuS
 obtain ⟨pa, pe⟩ := p
 by_cases h0 : pe = 0
 ·subst h0
  rw [if_pos rfl]
  rw [decide_eq_true rfl] at hen
  unfold unaF
  have hpk := c_peek s ⟨pa, 0⟩ S k hS
  have hnx := c_next s ⟨pa, 0⟩ S k hS
  generalize (nxF s ⟨pa, 0⟩).2 = q at *
  generalize (nxF s ⟨pa, 0⟩).1 = t0 at *
  generalize pkF s ⟨pa, 0⟩ = t at *
  unfold Tk.t Tk.cs at hpk hnx
  have hpr := c_primary s d (by omega) fx hx hmo hs ⟨pa, 0⟩ S k hS
  generalize priF s fx ⟨pa, 0⟩ = r0 at *
  unfold unF
  by_cases h6 : t.k = 6
  ·rw [if_pos h6]
   have ho := c_unaryOp t.tx
   generalize opOf 11 t.tx unSym = o at *
   rw [h6] at hpk
   by_cases hz : o = 0
   ·rw [if_neg (by omega)]
    subst hz
    clear hx hu hmo h6 hnx e1
    unfold PSt at *
    try simp only [lenN, Int.cast_ofNat_Int] at *
    (refine callF_light rfl pf_expr_parser_unary lf_expr_parser_unary (by simp [K_expr_parser_unary]) ?_; rw [evF_R, K_expr_parser_unary]; simp only [k11])
    simp (disch := omega) [*]
   ·rw [if_pos hz]
    have h7 := hu q S k hS
    generalize fu q = r at *
    unfold un1
    rw [mkE_t, ml1]
    clear hx hu hmo h6 e1
    unfold PSt at *
    try simp only [lenN, Int.cast_ofNat_Int] at *
    (refine callF_light rfl pf_expr_parser_unary lf_expr_parser_unary (by simp [K_expr_parser_unary]) ?_; rw [evF_R, K_expr_parser_unary]; simp only [k11])
    simp (disch := omega) [*]
  ·rw [if_neg h6, if_neg (by decide)]
   clear hx hu hmo hnx e1
   unfold PSt at *
   try simp only [lenN, Int.cast_ofNat_Int] at *
   (refine callF_light rfl pf_expr_parser_unary lf_expr_parser_unary (by simp [K_expr_parser_unary]) ?_; rw [evF_R, K_expr_parser_unary]; simp only [k11])
   simp (disch := omega) [*]
 ·rw [if_neg h0, zE_t]
  rw [decide_eq_false h0] at hen
  clear hx hu hmo e1
  unfold PSt at *
  try simp only [lenN, Int.cast_ofNat_Int] at *
  (refine callF_light rfl pf_expr_parser_unary lf_expr_parser_unary (by simp [K_expr_parser_unary]) ?_; rw [evF_R, K_expr_parser_unary]; simp only [k11])
  simp (disch := omega) [*]
end Go.TM.R8
