/- The law ExprPrecedence: its call comes to true. -/
import Derived.Test.YtnjihnjonhmflaaGreatDoorP8K
set_option linter.all false
namespace Go.TM.P8
open Go Go.TM Go.Proofs
set_option linter.unusedVariables false
set_option linter.unusedSimpArgs false
attribute [-simp] Int.natCast_add Int.natCast_mul List.drop_one
theorem pf_op : Tryz.prog.funcs[(9 : Nat)]? = some Tryz.f9 := Tryz.func9
theorem lf_op : toLF Tryz.prog (an 9) Tryz.f9 = some K_law08_op.f := kf_9
theorem pf_law : Tryz.prog.funcs[(3 : Nat)]? = some Tryz.f3 := Tryz.func3
theorem lf_law : toLF Tryz.prog (an 3) Tryz.f3 = some K_law08_ExprPrecedence.f := kf_3
@[simp] theorem om_5 : E.om 5 = [] := rfl
@[simp] theorem om_6 : E.om 6 = [] := rfl
@[simp] theorem om_7 : E.om 7 = [] := rfl
@[simp] theorem om_8 : E.om 8 = [] := rfl
@[simp] theorem om_9 : E.om 9 = [] := rfl
@[simp] theorem om_10 : E.om 10 = [] := rfl
@[simp] theorem om_11 : E.om 11 = [] := rfl
@[simp] theorem bs_0 : bytesN 0 0 = [] := rfl
@[simp] theorem bs_97 : bytesN 1 97 = [97] := rfl
@[simp] theorem bs_98 : bytesN 1 98 = [98] := rfl
@[simp] theorem bs_99 : bytesN 1 99 = [99] := rfl
@[simp] theorem bs_a : bytesN 2 8289 = [97, 32] := rfl
@[simp] theorem bs_b : bytesN 3 2122272 = [32, 98, 32] := rfl
@[simp] theorem bs_c : bytesN 2 25376 = [32, 99] := rfl
theorem b_rem (k : IntKind) (a b : Nat) (hb : 0 < b) : binT .rem (.sc (.int k (a : Int))) (.sc (.int k (b : Int))) = some (.sc (.int k ((a % b : Nat) : Int))) := by
 have h : ((b : Int) ≠ 0) := by omega
 have e : ((a : Int).tmod (b : Int)) = ((a % b : Nat) : Int) := by rw [Int.tmod_eq_emod_of_nonneg (by omega)]; rfl
 show (match (if k = k ∧ (b : Int) ≠ 0 then some (Value.int k ((a : Int).tmod (b : Int))) else none) with | some v => some (T.sc v) | none => none) = _
 rw [if_pos ⟨rfl, h⟩, e]
theorem w24 : IntKind.u8.wrap 24 = 24 := by decide
def kHead : KC → KC
 | .seq a (.seq b (.seq c (.seq d _))) => .seq a (.seq b (.seq c d))
 | c => c
def kTail : KC → KC
 | .seq _ (.seq _ (.seq _ (.seq _ t))) => t
 | c => c
def bl : V := .lst 1 (sgT.map fun p => .s p.1 p.2)
theorem bl_t : bl.t = .lst 1 (ml sT sg) := by
 unfold bl
 simp only [V.t, tL_map, List.map_map, ml, sg]
 congr 1
/-- The law's variables, where its second half begins. -/
def sl (i j m n : Nat) : SL := .cons 7 (.p 256 n) <| .cons 6 (.p 256 m) <| .cons 29 (.p 256 n) <| .cons 28 (.p 256 24) <| .cons 27 (.p 9223372036854775808 24) <| .cons 26 bl <| .cons 25 (.p 256 j) <| .cons 24 (.p 256 m) <| .cons 23 (.p 256 24) <|
 .cons 22 (.p 9223372036854775808 24) <| .cons 21 bl <| .cons 20 (.p 256 i) <| .cons 5 bl <| .cons 19 bl <| .cons 18 (.b false) <| .cons 17 (.b true) <| .cons 4 (.b false) <| .cons 0 (.p 256 i) <| .cons 1 (.p 256 j) .nil
theorem sl_t (i j m n : Nat) : (sl i j m n).t = [(7, .sc (.int .u8 (n : Int))), (6, .sc (.int .u8 (m : Int))), (29, .sc (.int .u8 (n : Int))), (28, .sc (.int .u8 24)), (27, .sc (.int .i64 24)), (26, .lst 1 (ml sT sg)), (25, .sc (.int .u8 (j : Int))),
  (24, .sc (.int .u8 (m : Int))), (23, .sc (.int .u8 24)), (22, .sc (.int .i64 24)), (21, .lst 1 (ml sT sg)), (20, .sc (.int .u8 (i : Int))), (5, .lst 1 (ml sT sg)), (19, .lst 1 (ml sT sg)), (18, .sc (.bool false)), (17, .sc (.bool true)), (4, .sc (.bool false)),
  (0, .sc (.int .u8 (i : Int))), (1, .sc (.int .u8 (j : Int)))] := by
 unfold sl
 simp only [SL.t, bl_t, V.t, kd_u8, kd_i64]
 rfl
set_option maxHeartbeats 4000000 in
theorem l_head (i j m n : Nat)
  (r1 : binT .rem (.sc (.int .u8 (i : Int))) (.sc (.int .u8 24)) = some (.sc (.int .u8 (m : Int)))) (r2 : binT .rem (.sc (.int .u8 (j : Int))) (.sc (.int .u8 24)) = some (.sc (.int .u8 (n : Int)))) :
  R E 1 84 (kHead K_law08_ExprPrecedence.c).c [] ⟨argS 0 [.sc (.int .u8 (i : Int)), .sc (.int .u8 (j : Int))], emp⟩ = some (.nrm, ⟨(sl i j m n).t, emp⟩) := by
 rw [sl_t]
 have ca := c_awake
 have cb := c_Binary
 have hlen : (ml sT sg).length = 24 := by rw [ml_len]; rfl
 have hcl : closedL (ml sT sg) = true := ml_closed sT (fun s => rfl) sg
 generalize ml sT sg = xs at *
 simp only [K_law08_ExprPrecedence, kHead]
 simp (maxSteps := 2000000) (disch := omega) [w24, *]
theorem seq_of {a b : LC} {st s1 : St} (h : evL' E.P (callF E) E.om 1 84 a st = some (.nrm, s1)) : evL' E.P (callF E) E.om 1 84 (.seq a b) st = evL' E.P (callF E) E.om 1 84 b s1 := by
 simp only [evL', h]
theorem seq_nrm {a b : LC} {st st' : St} (h : evL' E.P (callF E) E.om 1 84 (.seq a b) st = some (.nrm, st')) : ∃ s1, evL' E.P (callF E) E.om 1 84 a st = some (.nrm, s1) ∧ evL' E.P (callF E) E.om 1 84 b s1 = some (.nrm, st') := by
 simp only [evL'] at h
 generalize evL' E.P (callF E) E.om 1 84 a st = q at h ⊢
 match q, h with
 | some (.nrm, s1), h => exact ⟨s1, rfl, h⟩
theorem seq4 {a b c d t : LC} {st st' : St} (h : evL' E.P (callF E) E.om 1 84 (.seq a (.seq b (.seq c d))) st = some (.nrm, st')) : evL' E.P (callF E) E.om 1 84 (.seq a (.seq b (.seq c (.seq d t)))) st = evL' E.P (callF E) E.om 1 84 t st' := by
 obtain ⟨s1, h1, h⟩ := seq_nrm h
 obtain ⟨s2, h2, h⟩ := seq_nrm h
 obtain ⟨s3, h3, h⟩ := seq_nrm h
 rw [seq_of h1, seq_of h2, seq_of h3, seq_of h]
/-- What is known for one group of texts. -/
noncomputable def KG (m a : Nat) : KE := { K0 with M := fun f args => findK (G m a) f args 0 }
theorem kG {m a : Nat} (g : ∀ e ∈ G m a, TrueM E e) : KEOk (KG m a) E := ⟨kok.om, kok.X, kok.F, fun f args v h => by
 have h : findK (G m a) f args 0 = some v := h
 obtain ⟨e, he, rfl, rfl, rfl⟩ := findK_t _ h
 exact g e he⟩
noncomputable def kk (v : V) (S : KS) : Option An := some (v, S)
noncomputable def tl (K : KE) (i j m n : Nat) : Bool := match codeK (kTail K_law08_ExprPrecedence.c) (callK K 1000) K.u8 K.lf 1 (sl i j m n) [] (leaveK K_law08_ExprPrecedence 0 kk) (fun _ _ _ => none) (leaveK K_law08_ExprPrecedence 0 kk) with
 | some (.b true, S) => sE S
 | _ => false
theorem tl_t {K : KE} (hk : KEOk K E) {i j m n : Nat} (h : tl K i j m n = true) (hh : evL' E.P (callF E) E.om 1 84 (kHead K_law08_ExprPrecedence.c).c ⟨argS 0 [.sc (.int .u8 (i : Int)), .sc (.int .u8 (j : Int))], emp⟩ = some (.nrm, ⟨(sl i j m n).t, emp⟩)) :
  callF E 0 3 [.sc (.int .u8 (i : Int)), .sc (.int .u8 (j : Int))] emp = some (.sc (.bool true), emp) := by
 unfold tl at h
 split at h
 ·rename_i S hr
  obtain ⟨s1, S1, ho⟩ := code_t (P := E.P) (n := 84) (callK_t hk 1000) hk.om (kTail K_law08_ExprPrecedence.c) (by kernel_rfl) hr
  rw [abS_nil] at ho
  have hw : ∀ x, evL' E.P (callF E) E.om 1 84 (kTail K_law08_ExprPrecedence.c).c ⟨(sl i j m n).t, emp⟩ = some (x, ⟨s1.t, abS S1⟩) →
    evL' E.P (callF E) E.om 1 84 K_law08_ExprPrecedence.c.c ⟨argS 0 [.sc (.int .u8 (i : Int)), .sc (.int .u8 (j : Int))], emp⟩ = some (x, ⟨s1.t, abS S1⟩) := fun x hx => by
   rw [← hx]
   simp only [K_law08_ExprPrecedence, kHead, kTail] at hh ⊢
   simp only [KC.c] at hh ⊢
   exact seq4 hh
  have fin : ∀ x, (∀ i, x ≠ Ex.exit i) → evL' E.P (callF E) E.om 1 84 K_law08_ExprPrecedence.c.c ⟨argS 0 [.sc (.int .u8 (i : Int)), .sc (.int .u8 (j : Int))], emp⟩ = some (x, ⟨s1.t, abS S1⟩) → leaveK K_law08_ExprPrecedence 0 kk s1 S1 = some (.b true, S) →
    callF E 0 3 [.sc (.int .u8 (i : Int)), .sc (.int .u8 (j : Int))] emp = some (.sc (.bool true), emp) := by
   intro x hxe he hlv
   unfold leaveK at hlv
   obtain ⟨ts, h1, h2⟩ := res_t K_law08_ExprPrecedence.r hlv
   obtain ⟨v, S2, h3, h4⟩ := hand_t h2
   simp only [kk, Option.some.injEq, Prod.mk.injEq] at h4
   obtain ⟨rfl, rfl⟩ := h4
   rw [sE_emp h] at h3
   simp only [V.t] at h3
   have h3 : hand true 1 (oneK ts).t (abS S1) = some (.sc (.bool true), emp) := h3
   refine callF_light rfl pf_law lf_law (by simp [K_law08_ExprPrecedence]) ?_
   rw [evF_R]
   show finR 0 true _ (R E 1 84 K_law08_ExprPrecedence.c.c [] _) = _
   unfold R
   rw [RM_nil, he]
   cases x with
   | exit i => exact absurd rfl (hxe i)
   | nrm => rw [fin_n]; show q_resK 0 true (abS S1) (resR s1.t (abS S1) (K_law08_ExprPrecedence.r.map KR.r)) = _; rw [h1, resK_some, oneK_t]; exact h3
   | ret => rw [fin_r]; show q_resK 0 true (abS S1) (resR s1.t (abS S1) (K_law08_ExprPrecedence.r.map KR.r)) = _; rw [h1, resK_some, oneK_t]; exact h3
  rcases ho with ⟨a, b⟩ | ⟨i, a, b⟩ | ⟨a, b⟩
  ·exact fin .nrm (by simp) (hw _ a) b
  ·cases b
  ·exact fin .ret (by simp) (hw _ a) b
 ·cases h
end Go.TM.P8
