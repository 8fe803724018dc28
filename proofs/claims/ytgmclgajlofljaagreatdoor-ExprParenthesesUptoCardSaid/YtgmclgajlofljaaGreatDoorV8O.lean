/- Expressions: operators by precedence. -/
import Derived.Test.YtgmclgajlofljaaGreatDoorV8K
import Derived.Test.YtgmclgajlofljaaGreatDoorV8B
import Derived.Test.YtgmclgajlofljaaGreatDoorV8S
set_option linter.all false
namespace Go.TM.R8
open Go Go.TM Go.Proofs Go.TM.A8
attribute [-simp] Int.natCast_add Int.natCast_mul List.drop_one
@[simp] theorem t_snapL (x : Ex') (S : Store) : snapL S x.t.cells = some (x.t.cells, []) := by
 rw [Ex'.t_cells]
 simp [gs_snap]
abbrev EB (x : Ex') : Obj := .box 28 x.t.cells
def CC (s : List UInt8) (S2 : Store) (k j : Nat) (pf : PF) : Prop := ∀ p : PS,
 callF E (k + 2) f_expr_parser_expr_1 [.sc (.int .i64 (j : Int)), .ptr (k + 2, 2) 0, .ptr (k + 2, 3) 0, .ptr (k + 2, 5) 0] (PSt s p S2) = some ((pf p).1.t, PSt s (pf p).2 S2)
theorem level_le (o : Nat) : levelF o ≤ 11 := by unfold levelF; (repeat' split) <;> omega
theorem l_climb (s : List UInt8) (S2 : Store) (k least : Nat) (cl : Nat → PF) (hl : least ≤ 12) (hcl : ∀ j, least < j → j ≤ 12 → CC s S2 k j (cl j)) (hmo : ∀ j, Mo s (cl j))
  (hS : trunc (k + 2) S2 = S2) (h2 : S2 (k + 2, 2) = some (.box 62 [.ptr (1, 11) 0])) (h5 : S2 (k + 2, 5) = some (.box 65 [.clo 65 [.ptr (k + 2, 2) 0, .ptr (k + 2, 3) 0, .ptr (k + 2, 5) 0]])) :
  ∀ (n : Nat) (x : Ex') (p : PS), mu s p < n →
  Lp E (k + 3) 42 K_expr_parser_expr_1_h0 K_expr_parser_expr_1_b0.c ⟨[(0, .sc (.int .i64 (least : Int))), (1, .ptr (k + 2, 2) 0), (3, .ptr (k + 2, 5) 0), (5, .ptr (k + 3, 5) 0), (6, .ptr (k + 3, 6) 0)], PSt s p (upd (upd S2 (k + 3, 5) (EB zE)) (k + 3, 6) (EB x))⟩ =
   some (.ret, ⟨[(5, .ptr (k + 3, 5) 0)], PSt s (lopF s cl least n x p).2 (upd (upd (upd S2 (k + 3, 5) (EB (lopF s cl least n x p).1)) (k + 3, 6) (EB (lopF s cl least n x p).1)) (k + 3, 7) (.box 95 (pkF s (lopF s cl least n x p).2).cs))⟩)
 | 0, x, p, hmu => absurd hmu (Nat.not_lt_zero _)
 | n + 1, x, p, hmu => by
  have hn : ∀ d, S2 (k + 3, d) = none := fun d => lk_none (k := k + 1) hS d
  have hm : ∀ kl S0, maskT (k + 3) kl S0 S2 = S2 := fun kl S0 => lk_mask (k := k + 1) hS kl S0
  have ht : trunc (k + 3) S2 = S2 := lk_trunc (k := k + 1) hS
  have hr : ∀ d, setRo S2 [(k + 3, d)] = S2 := fun d => lk_ro (k := k + 1) hS d
  have hpk := c_peek s p S2 (k + 1) hS
  rw [lopF]
  unfold biF
  by_cases h6 : (pkF s p).k = 6
  ·rw [if_pos h6]
   have ho := c_binaryOp (pkF s p).tx
   by_cases hz : opOf 21 (pkF s p).tx biSym = 0
   ·rw [if_pos (.inl hz)]
    rw [hz] at ho
    unfold Tk.t at hpk
    unfold Tk.cs at *
    generalize pkF s p = t at *
    clear hcl hmo hmu hz
    unfold PSt at *
    simp only [k11, EB, zE_t, cells_agg] at *
    try simp only [lenN, Int.cast_ofNat_Int] at *
    (rw [Lp_eq]; rw (occs := .pos [1]) [K_expr_parser_expr_1_b0])
    simp (disch := omega) [*]
   ·have hv := c_level (opOf 21 (pkF s p).tx biSym)
    by_cases hlt : levelF (opOf 21 (pkF s p).tx biSym) < least
    ·rw [if_pos (.inr hlt)]
     unfold Tk.t at hpk
     unfold Tk.cs at *
     generalize pkF s p = t at *
     generalize opOf 21 t.tx biSym = o at *
     generalize levelF o = lv at *
     clear hcl hmo hmu
     unfold PSt at *
     simp only [k11, EB, zE_t, cells_agg] at *
     try simp only [lenN, Int.cast_ofNat_Int] at *
     (rw [Lp_eq]; rw (occs := .pos [1]) [K_expr_parser_expr_1_b0])
     simp (disch := omega) [*]
    ·rw [if_neg (by omega)]
     have hle := level_le (opOf 21 (pkF s p).tx biSym)
     have hm1 := mu_nx (s := s) (p := p) (by omega)
     have hnx := c_next s p S2 (k + 1) hS
     have hc := hcl (levelF (opOf 21 (pkF s p).tx biSym) + 1) (by omega) (by omega) (nxF s p).2
     have hm2 := hmo (levelF (opOf 21 (pkF s p).tx biSym) + 1) (nxF s p).2
     have ih := l_climb s S2 k least cl hl hcl hmo hS h2 h5 n (mkE (opOf 21 (pkF s p).tx biSym) [] [x, (cl (levelF (opOf 21 (pkF s p).tx biSym) + 1) (nxF s p).2).1]) (cl (levelF (opOf 21 (pkF s p).tx biSym) + 1) (nxF s p).2).2 (by omega)
     unfold Tk.t at hpk hnx
     unfold Tk.cs at hpk hnx
     generalize pkF s p = t at *
     generalize opOf 21 t.tx biSym = o at *
     generalize levelF o = lv at *
     generalize (nxF s p).2 = q at *
     generalize (nxF s p).1 = t2 at *
     generalize cl (lv + 1) q = r at *
     generalize lopF s cl least n (mkE o [] [x, r.1]) r.2 = w at *
     clear hcl hmo hmu hm1 hm2
     unfold PSt at *
     simp only [k11, EB, zE_t, mkE_t, ml2, cells_agg] at *
     try simp only [lenN, Int.cast_ofNat_Int] at *
     (rw [Lp_eq]; rw (occs := .pos [1]) [K_expr_parser_expr_1_b0])
     simp (disch := omega) [*]
  ·rw [if_neg h6, if_pos (.inl rfl)]
   unfold Tk.t at hpk
   unfold Tk.cs at *
   generalize pkF s p = t at *
   clear hcl hmo hmu
   unfold PSt at *
   simp only [k11, EB, zE_t, cells_agg] at *
   try simp only [lenN, Int.cast_ofNat_Int] at *
   (rw [Lp_eq]; rw (occs := .pos [1]) [K_expr_parser_expr_1_b0])
   simp (disch := omega) [*]
end Go.TM.R8
namespace Go.TM.R8
open Go Go.TM Go.Proofs Go.TM.A8
attribute [-simp] Int.natCast_add Int.natCast_mul List.drop_one
@[simp] theorem cells_clo' (f : FuncId) (cs : List T) : (T.clo f cs).cells = [.clo f cs] := rfl
@[simp] theorem one_clo' (f : FuncId) (cs : List T) : one (T.clo f cs) = true := rfl
theorem c_climb (s : List UInt8) (d : Nat) (fu : PF) (hu : XC s f_expr_parser_unary d fu) (hmo : Mo s fu) (S2 : Store) (k : Nat)
  (hS : trunc (k + 2) S2 = S2) (h2 : S2 (k + 2, 2) = some (.box 62 [.ptr (1, 11) 0])) (h3 : S2 (k + 2, 3) = some (.box 3 [.sc (.int .i64 (d : Int))])) (h5 : S2 (k + 2, 5) = some (.box 65 [.clo 65 [.ptr (k + 2, 2) 0, .ptr (k + 2, 3) 0, .ptr (k + 2, 5) 0]])) :
  ∀ (f least : Nat), 13 ≤ f + least → least ≤ 12 → CC s S2 k least (cliF s fu f least)
 | 0, least, h, hl => by omega
 | f + 1, least, h, hl => by
  intro p
  have hcl : ∀ j, least < j → j ≤ 12 → CC s S2 k j (cliF s fu f j) := fun j h1 h2' => c_climb s d fu hu hmo S2 k hS h2 h3 h5 f j (by omega) h2'
  have hL := l_climb s S2 k least (cliF s fu f) hl hcl (fun j => cli_le hmo f j) hS h2 h5 (fuelR s) (fu p).1 (fu p).2 (mu_fuel s _)
  have hU := hu p S2 (k + 1) hS
  rw [cli_s]
  generalize fu p = r at *
  generalize lopF s (cliF s fu f) least (fuelR s) r.1 r.2 = w at *
  have hn : ∀ d, S2 (k + 3, d) = none := fun d => lk_none (k := k + 1) hS d
  have hm : ∀ kl S0, maskT (k + 3) kl S0 S2 = S2 := fun kl S0 => lk_mask (k := k + 1) hS kl S0
  have ht : trunc (k + 3) S2 = S2 := lk_trunc (k := k + 1) hS
  have hr : ∀ d, setRo S2 [(k + 3, d)] = S2 := fun d => lk_ro (k := k + 1) hS d
  clear hcl hu hmo
  unfold Tk.cs at *
  unfold PSt at *
  simp only [k11, EB, zE_t, cells_agg] at *
  try simp only [lenN, Int.cast_ofNat_Int] at *
  (refine callF_light rfl pf_expr_parser_expr_1 lf_expr_parser_expr_1 (by simp [K_expr_parser_expr_1]) ?_; rw [evF_R, K_expr_parser_expr_1])
  simp only [show k + 2 + 1 = k + 3 from rfl]
  simp (disch := omega) [*]
theorem c_expr (s : List UInt8) (d : Nat) (hd : d ≤ 128) (fx fu : PF) (hx : XC s f_expr_parser_expr (d + 1) fx) (hu : XC s f_expr_parser_unary d (fuS s fx fu)) (hmo : Mo s (fuS s fx fu)) : XC s f_expr_parser_expr d (fxS s fx fu) := by
 intro p S k hS
 (have hn : ∀ d, S (k + 2, d) = none := fun d => lk_none hS d); (have hm : ∀ kl S0, maskT (k + 2) kl S0 S = S := fun kl S0 => lk_mask hS kl S0); (have ht : trunc (k + 2) S = S := lk_trunc hS); (have hr : ∀ d, setRo S [(k + 2, d)] = S := fun d => lk_ro hS d)
 obtain ⟨pa, pe⟩ := p
 have hen := c_enter s ⟨pa, pe⟩ S k hS d (by omega)
 have e1 : entF (129 - d) ⟨pa, pe⟩ = ⟨pa, pe⟩ := by unfold entF; rw [if_neg (by omega)]
 rw [e1] at hen
 unfold fxS
 by_cases h0 : pe = 0
 ·subst h0
  rw [if_pos rfl]
  rw [decide_eq_true rfl] at hen
  unfold exF
  have hC := fun S2 hS h2 h3 h5 => c_climb s d (fuS s fx fu) hu hmo S2 k hS h2 h3 h5 12 1 (by omega) (by omega) ⟨pa, 0⟩
  have hC := hC (upd (upd (upd (upd S (k + 2, 2) (.box 62 [.ptr (1, 11) 0])) (k + 2, 3) (.box 3 [.sc (.int .i64 (d : Int))])) (k + 2, 4) (EB zE)) (k + 2, 5) (.box 65 [.clo 65 [.ptr (k + 2, 2) 0, .ptr (k + 2, 3) 0, .ptr (k + 2, 5) 0]]))
   (by simp only [trunc_k2, ht]) (by simp [upd_ap]) (by simp [upd_ap]) (by simp [upd_ap])
  generalize cliF s (fuS s fx fu) 12 1 ⟨pa, 0⟩ = r at *
  have hm1 := c_may s [63] r.2 S k hS
  unfold mayF at hm1
  unfold condF
  by_cases hb : myB s [63] r.2 = true
  ·rw [if_pos hb]
   rw [hb, if_pos rfl] at hm1
   generalize tkF s [63] r.2 = q at *
   have ha := hx q S k hS
   generalize fx q = r1 at *
   unfold cond1
   have ht1 := c_take s [58] r1.2 S k hS
   generalize tkF s [58] r1.2 = q1 at *
   have ha2 := hx q1 S k hS
   generalize fx q1 = r2 at *
   unfold cond2
   rw [mkE_t, show ml Ex'.t [r.1, r1.1, r2.1] = [r.1.t, r1.1.t, r2.1.t] from rfl]
   clear hx hu hmo e1 hb
   unfold PSt at *
   simp only [EB, zE_t, cells_agg] at *
   try simp only [lenN, Int.cast_ofNat_Int] at *
   (refine callF_light rfl pf_expr_parser_expr lf_expr_parser_expr (by simp [K_expr_parser_expr]) ?_; rw [evF_R, K_expr_parser_expr]; simp only [k11])
   simp (disch := omega) [*]
  ·rw [if_neg hb]
   have hb2 : myB s [63] r.2 = false := by simpa using hb
   rw [hb2, if_neg (by decide)] at hm1
   clear hx hu hmo e1 hb hb2
   unfold PSt at *
   simp only [EB, zE_t, cells_agg] at *
   try simp only [lenN, Int.cast_ofNat_Int] at *
   (refine callF_light rfl pf_expr_parser_expr lf_expr_parser_expr (by simp [K_expr_parser_expr]) ?_; rw [evF_R, K_expr_parser_expr]; simp only [k11])
   simp (disch := omega) [*]
 ·rw [if_neg h0, zE_t]
  rw [decide_eq_false h0] at hen
  clear hx hu hmo e1 h0
  unfold PSt at *
  try simp only [lenN, Int.cast_ofNat_Int] at *
  (refine callF_light rfl pf_expr_parser_expr lf_expr_parser_expr (by simp [K_expr_parser_expr]) ?_; rw [evF_R, K_expr_parser_expr]; simp only [k11])
  simp (disch := omega) [*]
end Go.TM.R8
namespace Go.TM.R8
open Go Go.TM Go.Proofs Go.TM.A8
attribute [-simp] Int.natCast_add Int.natCast_mul List.drop_one
theorem c_lv0 (s : List UInt8) : XC s f_expr_parser_expr 129 (lvF s 0).1 ∧ XC s f_expr_parser_unary 129 (lvF s 0).2 := by
 constructor
 ·intro p S k hS
  (have hn : ∀ d, S (k + 2, d) = none := fun d => lk_none hS d); (have hm : ∀ kl S0, maskT (k + 2) kl S0 S = S := fun kl S0 => lk_mask hS kl S0); (have ht : trunc (k + 2) S = S := lk_trunc hS); (have hr : ∀ d, setRo S [(k + 2, d)] = S := fun d => lk_ro hS d)
  have hen := c_enter s p S k hS 129 (by omega)
  rw [show (129 - 129 : Nat) = 0 from rfl] at hen
  show _ = some (zE.t, PSt s (entF 0 p) S)
  have h0 : ¬ (entF 0 p).e = 0 := by
   intro h
   unfold entF at h
   split at h
   ·cases h
   ·rename_i h1; exact h1 ⟨h, rfl⟩
  rw [decide_eq_false h0] at hen
  generalize entF 0 p = q at *
  rw [zE_t]
  clear h0
  unfold PSt at *
  try simp only [lenN, Int.cast_ofNat_Int] at *
  (refine callF_light rfl pf_expr_parser_expr lf_expr_parser_expr (by simp [K_expr_parser_expr]) ?_; rw [evF_R, K_expr_parser_expr]; simp only [k11])
  simp (disch := omega) [*]
 ·intro p S k hS
  (have hn : ∀ d, S (k + 2, d) = none := fun d => lk_none hS d); (have hm : ∀ kl S0, maskT (k + 2) kl S0 S = S := fun kl S0 => lk_mask hS kl S0); (have ht : trunc (k + 2) S = S := lk_trunc hS); (have hr : ∀ d, setRo S [(k + 2, d)] = S := fun d => lk_ro hS d)
  have hen := c_enter s p S k hS 129 (by omega)
  rw [show (129 - 129 : Nat) = 0 from rfl] at hen
  show _ = some (zE.t, PSt s (entF 0 p) S)
  have h0 : ¬ (entF 0 p).e = 0 := by
   intro h
   unfold entF at h
   split at h
   ·cases h
   ·rename_i h1; exact h1 ⟨h, rfl⟩
  rw [decide_eq_false h0] at hen
  generalize entF 0 p = q at *
  rw [zE_t]
  clear h0
  unfold PSt at *
  try simp only [lenN, Int.cast_ofNat_Int] at *
  (refine callF_light rfl pf_expr_parser_unary lf_expr_parser_unary (by simp [K_expr_parser_unary]) ?_; rw [evF_R, K_expr_parser_unary]; simp only [k11])
  simp (disch := omega) [*]
theorem c_lv (s : List UInt8) (hs : s.length ≤ 65536) : ∀ K, K ≤ 128 → XC s f_expr_parser_expr (129 - K) (lvF s K).1 ∧ XC s f_expr_parser_unary (129 - K) (lvF s K).2
 | 0, _ => c_lv0 s
 | K + 1, h => by
  obtain ⟨h1, h2⟩ := c_lv s hs K (by omega)
  have e : 129 - K = 129 - (K + 1) + 1 := by omega
  rw [e] at h1 h2
  have hm := lv_le s K
  have hu := c_unary s (129 - (K + 1)) (by omega) _ _ h1 h2 hm.1 hs
  exact ⟨c_expr s (129 - (K + 1)) (by omega) _ _ h1 hu (fu_le hm.1 hm.2), hu⟩
def parseF (s : List UInt8) (i : Int) : Ex' × Int × Nat :=
 if ((lvF s 128).1 ⟨i, 0⟩).2.e = 0 then (if checkF ((lvF s 128).1 ⟨i, 0⟩).1 = 0 then (((lvF s 128).1 ⟨i, 0⟩).1, ((lvF s 128).1 ⟨i, 0⟩).2.a, 0) else (zE, 0, checkF ((lvF s 128).1 ⟨i, 0⟩).1)) else (zE, 0, ((lvF s 128).1 ⟨i, 0⟩).2.e)
theorem c_Parse8 (s : List UInt8) (i : Int) (hs : s.length ≤ 65536) : callF E 0 f_expr_Parse [.sc (str s), .sc (.int .i64 i)] emp =
  some (.tup [(parseF s i).1.t, .sc (.int .i64 (parseF s i).2.1), .sc (.int .i64 ((parseF s i).2.2 : Int))], emp) := by
 have hx := (c_lv s hs 128 (by omega)).1 ⟨i, 0⟩ (upd emp (1, 4) (EB zE)) 0
 rw [show (129 - 128 : Nat) = 1 from rfl] at hx
 unfold parseF
 have hg := (lv_su s 128).1 ⟨i, 0⟩
 generalize (lvF s 128).1 ⟨i, 0⟩ = r at *
 obtain ⟨x, pa, pe⟩ := r
 simp only [] at hg hx ⊢
 by_cases h0 : pe = 0
 ·subst h0
  rw [if_pos rfl]
  obtain ⟨a, b, e1, e2, e3⟩ := hg rfl
  have hp := g_pp e3
  have hC := c_CheckB x (by have := hp.2.2.2.1; have := hp.2.1; omega) hp.2.2.2.2.1
  generalize checkF x = c at *
  clear hg hp e1 e2 e3
  have hx := hx (by simp [trunc_emp])
  unfold PSt PX at hx
  simp only [EB, zE_t, cells_agg] at hx
  by_cases hc : c = 0
  ·subst hc
   rw [if_pos rfl]
   try simp only [lenN, Int.cast_ofNat_Int] at *
   (refine callF_light rfl pf_expr_Parse lf_expr_Parse (by simp [K_expr_Parse]) ?_; rw [evF_R, K_expr_Parse])
   simp (disch := omega) [*]
  ·rw [if_neg hc, zE_t]
   try simp only [lenN, Int.cast_ofNat_Int] at *
   (refine callF_light rfl pf_expr_Parse lf_expr_Parse (by simp [K_expr_Parse]) ?_; rw [evF_R, K_expr_Parse])
   simp (disch := omega) [*]
 ·rw [if_neg h0, zE_t]
  have hx := hx (by simp [trunc_emp])
  unfold PSt PX at hx
  simp only [EB, zE_t, cells_agg] at hx
  clear hg
  try simp only [lenN, Int.cast_ofNat_Int] at *
  (refine callF_light rfl pf_expr_Parse lf_expr_Parse (by simp [K_expr_Parse]) ?_; rw [evF_R, K_expr_Parse])
  simp (disch := omega) [*]
end Go.TM.R8
