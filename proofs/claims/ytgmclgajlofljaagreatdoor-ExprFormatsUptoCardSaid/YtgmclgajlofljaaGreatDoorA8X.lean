/- What the functions of the library that are not run come to; the evaluators' tables. -/
import Derived.Test.YtgmclgajlofljaaGreatDoorTmKn
import Derived.Test.YtgmclgajlofljaaGreatDoorA8KF
import Derived.Test.YtgmclgajlofljaaGreatDoorShelf2
import Derived.KernelRfl
set_option linter.all false
namespace Go.TM.A8
open Go Go.TM Go.Proofs Go.RowKit
set_option maxRecDepth 1000000
def X (f : FuncId) : Option (List T → Option T) := if f = 146 then some XIB else if f = 147 then some XIX else if f = 132 then some XF2 else none
noncomputable def Xk (f : Nat) : Option (List V → Option V) := bif Nat.beq f 146 then some kIB else bif Nat.beq f 147 then some kIX else bif Nat.beq f 132 then some kF2 else none
def cf : Cf := ⟨[5], fun g => bif Nat.beq g 39 then [1000] else bif Nat.beq g 65 then [1000] else bif Nat.beq g 75 then [1000] else bif Nat.beq g 145 then [1] else []⟩
noncomputable def E : Env := { P := Tryz.prog, om := fun g => if g = 1000000000 then cf.b else cf.om g, an := an, X := X }
noncomputable def K0 : KE := ⟨FT, cf, 1000000, Xk, fun _ _ => none⟩
theorem gT : Tryz.prog.globalNamed "internal/strconv.uint64pow10" = some 1 := by kernel_rfl
def gam : Glob := ⟨fun w => (∃ m, w.cell? ⟨0, 0, none⟩ = some (.int .i64 m)) ∧ Lib.TabIs Tryz.prog w "internal/strconv.uint64pow10" .u64 Lib.pow10Tab, fun b => b = 0 ∨ b = 1, fun w w' ⟨⟨m, h⟩, ht⟩ k => ⟨⟨m, by rw [← h]; simp only [World.cell?, k 0 (.inl rfl)]⟩, by
 unfold Lib.TabIs World.var? at ht ⊢
 rw [gT] at ht ⊢
 simp only [Option.bind_some] at ht ⊢
 rw [k 1 (.inr rfl)]; exact ht⟩⟩
theorem tab_lt {w : World} (h : Lib.TabIs Tryz.prog w "internal/strconv.uint64pow10" .u64 Lib.pow10Tab) : 1 < w.heap.size := by
 rcases Nat.lt_or_ge 1 w.heap.size with h1 | h1
 ·exact h1
 ·unfold Lib.TabIs World.var? at h
  rw [gT] at h
  simp [Array.getElem?_eq_none h1] at h
theorem rep_sc {c : Ctx} {v u : Value} (h : Rep c (.sc v) u) : u = v := by cases h; rfl
theorem repL_one {c : Ctx} {a : Value} {vs : List Value} (h : RepL c [.sc a] vs) : vs = [a] := by
 cases h with
 | cons _ v _ ws h1 h2 =>
  cases h2
  rw [rep_sc h1]
theorem repL_two {c : Ctx} {a b : Value} {vs : List Value} (h : RepL c [.sc a, .sc b] vs) : vs = [a, b] := by
 cases h with
 | cons _ v _ ws h1 h2 =>
  cases h2 with
  | cons _ v2 _ ws2 h3 h4 =>
   cases h4
   rw [rep_sc h1, rep_sc h3]
theorem post_same {w : World} {v : Value} (hv : isSc v = true) {e : Ending} {w' : World} (h : e = .returned v ∧ w' = w) : XPost w (.sc v) e w' := by
 obtain ⟨rfl, rfl⟩ := h
 exact ⟨fun c => .sc v hv, ⟨rfl, rfl, rfl⟩, Nat.le_refl _, fun _ _ => rfl⟩
theorem post_below {w : World} {v : Value} (hv : isSc v = true) {e : Ending} {w' : World} (h : e = .returned v ∧ Below w.heap.size w w') : XPost w (.sc v) e w' := by
 obtain ⟨rfl, h⟩ := h
 exact ⟨fun c => .sc v hv, ⟨h.os, h.tape, h.output⟩, h.size, h.block⟩
theorem x_ib : Entered Tryz.prog 146 ∧ ∀ args r, XIB args = some r → closed r = true → hasLst r = false → ∀ L c vs, Inv L c → Good gam c → RepL c args vs → Calls Tryz.prog 146 vs.toArray c.w (XPost c.w r) := by
 refine ⟨⟨Tryz.f146, Tryz.func146, by kernel_rfl, by kernel_rfl⟩, fun args r h _ _ L c vs _ _ hr => ?_⟩
 unfold XIB at h
 split at h
 ·simp only [Option.some.injEq] at h
  subst h
  rw [repL_two hr]
  exact (Tryz.strings_IndexByte _ _ _).mono fun e w' h => post_same rfl h
 ·cases h
theorem x_ix : Entered Tryz.prog 147 ∧ ∀ args r, XIX args = some r → closed r = true → hasLst r = false → ∀ L c vs, Inv L c → Good gam c → RepL c args vs → Calls Tryz.prog 147 vs.toArray c.w (XPost c.w r) := by
 refine ⟨⟨Tryz.f147, Tryz.func147, by kernel_rfl, by kernel_rfl⟩, fun args r h _ _ L c vs _ hg hr => ?_⟩
 unfold XIX at h
 split at h
 ·split at h
  ·rename_i hs
   simp only [Option.some.injEq] at h
   subst h
   rw [repL_two hr]
   obtain ⟨⟨⟨m, hm⟩, _⟩, _⟩ := hg
   exact (Tryz.strings_Index _ _ m _ hs hm).mono fun e w' h => post_same rfl h
  ·cases h
 ·cases h
theorem x_fi : Entered Tryz.prog 132 ∧ ∀ args r, XF2 args = some r → closed r = true → hasLst r = false → ∀ L c vs, Inv L c → Good gam c → RepL c args vs → Calls Tryz.prog 132 vs.toArray c.w (XPost c.w r) := by
 refine ⟨⟨Tryz.f132, Tryz.func132, by kernel_rfl, by kernel_rfl⟩, fun args r h _ _ L c vs _ hg hr => ?_⟩
 unfold XF2 at h
 split at h
 ·split at h
  ·rename_i k b hs
   simp only [Option.some.injEq] at h
   subst h
   rw [repL_two hr]
   obtain ⟨h0, h1, rfl⟩ := hs
   refine (Tryz.strconv_FormatInt_10 k (by omega) h1 c.w hg.1.2).mono fun e w' h => ?_
   obtain ⟨rfl, q, os, rfl⟩ := h
   refine post_below rfl ⟨?_, Lib.below_grow _ c.w (Nat.le_refl _) q os⟩
   unfold Lib.itoa
   rw [if_neg (by omega)]
  ·cases h
 ·cases h
theorem xok : XOk Tryz.prog gam X := by
 intro f g h
 unfold X at h
 split at h
 ·rename_i e
  simp only [Option.some.injEq] at h
  subst e; subst h; exact x_ib
 split at h
 ·rename_i e
  simp only [Option.some.injEq] at h
  subst e; subst h; exact x_ix
 split at h
 ·rename_i e
  simp only [Option.some.injEq] at h
  subst e; subst h; exact x_fi
 cases h
theorem ngok : NGOk Tryz.prog := by
 intro f fn h
 have all : (Tryz.prog.funcs.toList.all fun fn => !(fn.name == "runtime.NumGoroutine")) = true := by kernel_rfl
 rw [List.all_eq_true] at all
 have := all fn (by rw [Array.mem_toList_iff]; exact Array.mem_of_getElem? h)
 simpa using this
def AllT (P : Nat → KF → Prop) : BT → Prop
 | .leaf => True
 | .node f F l r => P f F ∧ AllT P l ∧ AllT P r
theorem allT_get {P : Nat → KF → Prop} : ∀ {b : BT} {x : Nat} {F : KF}, AllT P b → b.get x = some F → P x F
 | .leaf, x, F, _, h => by cases h
 | .node f G l r, x, F, ha, h => by
  have h2 : (@Bool.rec (fun _ => Option KF) (@Bool.rec (fun _ => Option KF) (r.get x) (l.get x) (Nat.blt x f)) (some G) (Nat.beq x f)) = some F := h
  rw [br_if] at h2
  split at h2
  ·rename_i e
   rw [nbeq] at e
   simp only [Option.some.injEq] at h2
   rw [e, ← h2]; exact ha.1
  ·rw [br_if] at h2
   split at h2
   ·exact allT_get ha.2.1 h2
   ·exact allT_get ha.2.2 h2
def Fok (f : Nat) (F : KF) : Prop := dC F.c = true ∧ ∃ fn, E.P.funcs[f]? = some fn ∧ toLF E.P (E.an f) fn = some F.f
theorem okf {f : Nat} {F : KF} {fn : Func} (h1 : dC F.c = true) (h2 : E.P.funcs[f]? = some fn) (h3 : toLF E.P (E.an f) fn = some F.f) : Fok f F := ⟨h1, fn, h2, h3⟩
theorem allL {P : Nat → KF → Prop} : AllT P .leaf := trivial
theorem allN {P : Nat → KF → Prop} {f : Nat} {F : KF} {l r : BT} (h : P f F) (hl : AllT P l) (hr : AllT P r) : AllT P (.node f F l r) := ⟨h, hl, hr⟩
theorem fok : AllT Fok FT := (allN (okf (by kernel_rfl) Tryz.func89 kf_89) (allN (okf (by kernel_rfl) Tryz.func60 kf_60) (allN (okf (by kernel_rfl) Tryz.func36 kf_36) (allN (okf (by kernel_rfl) Tryz.func19 kf_19) (allN (okf (by kernel_rfl) Tryz.func14 kf_14) (allN (okf (by kernel_rfl) Tryz.func13 kf_13) (allN (okf (by kernel_rfl) Tryz.func11 kf_11) allL allL) allL) (allN (okf (by kernel_rfl) Tryz.func17 kf_17) allL allL)) (allN (okf (by kernel_rfl) Tryz.func26 kf_26) (allN (okf (by kernel_rfl) Tryz.func23 kf_23) (allN (okf (by kernel_rfl) Tryz.func22 kf_22) allL allL) allL) (allN (okf (by kernel_rfl) Tryz.func34 kf_34) allL allL))) (allN (okf (by kernel_rfl) Tryz.func43 kf_43) (allN (okf (by kernel_rfl) Tryz.func40 kf_40) (allN (okf (by kernel_rfl) Tryz.func39 kf_39) (allN (okf (by kernel_rfl) Tryz.func37 kf_37) allL allL) allL) (allN (okf (by kernel_rfl) Tryz.func42 kf_42) allL allL)) (allN (okf (by kernel_rfl) Tryz.func48 kf_48) (allN (okf (by kernel_rfl) Tryz.func46 kf_46) (allN (okf (by kernel_rfl) Tryz.func44 kf_44) allL allL) allL) (allN (okf (by kernel_rfl) Tryz.func54 kf_54) allL allL)))) (allN (okf (by kernel_rfl) Tryz.func72 kf_72) (allN (okf (by kernel_rfl) Tryz.func67 kf_67) (allN (okf (by kernel_rfl) Tryz.func65 kf_65) (allN (okf (by kernel_rfl) Tryz.func64 kf_64) (allN (okf (by kernel_rfl) Tryz.func62 kf_62) allL allL) allL) (allN (okf (by kernel_rfl) Tryz.func66 kf_66) allL allL)) (allN (okf (by kernel_rfl) Tryz.func70 kf_70) (allN (okf (by kernel_rfl) Tryz.func69 kf_69) (allN (okf (by kernel_rfl) Tryz.func68 kf_68) allL allL) allL) (allN (okf (by kernel_rfl) Tryz.func71 kf_71) allL allL))) (allN (okf (by kernel_rfl) Tryz.func77 kf_77) (allN (okf (by kernel_rfl) Tryz.func75 kf_75) (allN (okf (by kernel_rfl) Tryz.func74 kf_74) (allN (okf (by kernel_rfl) Tryz.func73 kf_73) allL allL) allL) (allN (okf (by kernel_rfl) Tryz.func76 kf_76) allL allL)) (allN (okf (by kernel_rfl) Tryz.func82 kf_82) (allN (okf (by kernel_rfl) Tryz.func81 kf_81) (allN (okf (by kernel_rfl) Tryz.func78 kf_78) allL allL) allL) (allN (okf (by kernel_rfl) Tryz.func83 kf_83) allL allL))))) (allN (okf (by kernel_rfl) Tryz.func131 kf_131) (allN (okf (by kernel_rfl) Tryz.func104 kf_104) (allN (okf (by kernel_rfl) Tryz.func98 kf_98) (allN (okf (by kernel_rfl) Tryz.func96 kf_96) (allN (okf (by kernel_rfl) Tryz.func95 kf_95) (allN (okf (by kernel_rfl) Tryz.func90 kf_90) allL allL) allL) (allN (okf (by kernel_rfl) Tryz.func97 kf_97) allL allL)) (allN (okf (by kernel_rfl) Tryz.func101 kf_101) (allN (okf (by kernel_rfl) Tryz.func100 kf_100) (allN (okf (by kernel_rfl) Tryz.func99 kf_99) allL allL) allL) (allN (okf (by kernel_rfl) Tryz.func102 kf_102) allL allL))) (allN (okf (by kernel_rfl) Tryz.func126 kf_126) (allN (okf (by kernel_rfl) Tryz.func124 kf_124) (allN (okf (by kernel_rfl) Tryz.func123 kf_123) (allN (okf (by kernel_rfl) Tryz.func114 kf_114) allL allL) allL) (allN (okf (by kernel_rfl) Tryz.func125 kf_125) allL allL)) (allN (okf (by kernel_rfl) Tryz.func129 kf_129) (allN (okf (by kernel_rfl) Tryz.func128 kf_128) (allN (okf (by kernel_rfl) Tryz.func127 kf_127) allL allL) allL) (allN (okf (by kernel_rfl) Tryz.func130 kf_130) allL allL)))) (allN (okf (by kernel_rfl) Tryz.func155 kf_155) (allN (okf (by kernel_rfl) Tryz.func150 kf_150) (allN (okf (by kernel_rfl) Tryz.func148 kf_148) (allN (okf (by kernel_rfl) Tryz.func145 kf_145) (allN (okf (by kernel_rfl) Tryz.func135 kf_135) allL allL) allL) (allN (okf (by kernel_rfl) Tryz.func149 kf_149) allL allL)) (allN (okf (by kernel_rfl) Tryz.func153 kf_153) (allN (okf (by kernel_rfl) Tryz.func152 kf_152) (allN (okf (by kernel_rfl) Tryz.func151 kf_151) allL allL) allL) (allN (okf (by kernel_rfl) Tryz.func154 kf_154) allL allL))) (allN (okf (by kernel_rfl) Tryz.func209 kf_209) (allN (okf (by kernel_rfl) Tryz.func207 kf_207) (allN (okf (by kernel_rfl) Tryz.func206 kf_206) (allN (okf (by kernel_rfl) Tryz.func178 kf_178) allL allL) allL) (allN (okf (by kernel_rfl) Tryz.func208 kf_208) allL allL)) (allN (okf (by kernel_rfl) Tryz.func237 kf_237) (allN (okf (by kernel_rfl) Tryz.func236 kf_236) (allN (okf (by kernel_rfl) Tryz.func235 kf_235) allL allL) allL) (allN (okf (by kernel_rfl) Tryz.func255 kf_255) allL allL))))))
theorem xk_none {f : Nat} (h : Xk f = none) : X f = none := by
 unfold Xk at h
 unfold X
 simp only [cond_eq_ite, nbeq] at h
 repeat' split at h
 all_goals first | (simp_all; done) | cases h
theorem xk_some {f : Nat} {g : List V → Option V} (h : Xk f = some g) : ∃ g', X f = some g' ∧ ∀ args v, g args = some v → g' (V.tL args) = some v.t := by
 unfold Xk at h
 unfold X
 simp only [cond_eq_ite, nbeq] at h
 split at h
 ·rename_i e
  simp only [Option.some.injEq] at h
  subst h
  simp only [e]
  exact ⟨_, rfl, fun args v h => kIB_t h⟩
 rename_i e
 simp only [e, if_false]
 split at h
 ·rename_i e
  simp only [Option.some.injEq] at h
  subst h
  simp only [e]
  exact ⟨_, rfl, fun args v h => kIX_t h⟩
 rename_i e
 simp only [e, if_false]
 split at h
 ·rename_i e
  simp only [Option.some.injEq] at h
  subst h
  simp only [e]
  exact ⟨_, rfl, fun args v h => kF2_t h⟩
 rename_i e
 simp only [e, if_false]
 cases h
theorem kok : KEOk K0 E where
 om := rfl
 X := fun f g h => xk_some h
 F := fun f F hx hF => ⟨(allT_get fok hF).1, xk_none hx, (allT_get fok hF).2⟩
 M := fun f args v h => by cases h
theorem calls_of {f : Nat} {v : Value} {S : Store} (h : callF E 0 f [] emp = some (.sc v, S)) (w : World) (hm : ∃ m, w.cell? ⟨0, 0, none⟩ = some (.int .i64 m)) (ht : Lib.TabIs Tryz.prog w "internal/strconv.uint64pow10" .u64 Lib.pow10Tab) : Calls Tryz.prog f #[] w fun e w' => e = .returned v ∧ Below w.heap.size w w' := by
 have hs := (callF_sound (γ := gam) xok ngok 0 f [] emp _ _ h).2
 have hlt : 0 < w.heap.size := by
  obtain ⟨m, hm⟩ := hm
  rcases Nat.lt_or_ge 0 w.heap.size with h | h
  ·exact h
  ·simp [World.cell?, Array.getElem?_eq_none h] at hm
 have := hs ⟨emp, fun _ => False, fun _ => 0, fun b => b < w.heap.size, w⟩ [] rfl
  ⟨⟨fun l bt cs hD => hD.elim, fun l ro g sz e xs hD => hD.elim, fun l hD => hD.elim, fun l l' hD => hD.elim, fun b hb => hb, fun l hD => hD.elim⟩, fun l hD => hD.elim, fun l hl => absurd rfl hl⟩
  ⟨⟨hm, ht⟩, fun b hb => by
   rcases hb with rfl | rfl
   ·exact hlt
   ·exact tab_lt ht⟩ .nil
 refine Calls.mono this fun e w' he => ?_
 cases e with
 | panicked ch => exact he.elim
 | outgrown => exact he.elim
 | returned u =>
  obtain ⟨c', rfl, hl⟩ := he
  refine ⟨by rw [rep_sc hl.rep], ⟨hl.fr.os, hl.fr.tape, hl.fr.output, hl.fr.size, fun k hk => hl.fr.blk k hk fun l hD => hD.elim⟩⟩
end Go.TM.A8
