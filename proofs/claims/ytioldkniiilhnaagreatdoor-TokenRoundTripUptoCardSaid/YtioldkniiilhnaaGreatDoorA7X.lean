/- What the functions of the library that are not run come to; the evaluators' tables. -/
import Derived.Test.YtioldkniiilhnaaGreatDoorTmKn
import Derived.Test.YtioldkniiilhnaaGreatDoorA7KF
import Derived.Test.YtioldkniiilhnaaGreatDoorShelf2
import Derived.KernelRfl
set_option linter.all false
namespace Go.TM.A7
open Go Go.TM Go.Proofs Go.RowKit
set_option maxRecDepth 1000000
def X (f : FuncId) : Option (List T → Option T) := if f = 81 then some XIB else if f = 82 then some XIX else if f = 95 then some XF2 else none
noncomputable def Xk (f : Nat) : Option (List V → Option V) := bif Nat.beq f 81 then some kIB else bif Nat.beq f 82 then some kIX else bif Nat.beq f 95 then some kF2 else none
def cf : Cf := ⟨[5], fun g => []⟩
noncomputable def E : Env := { P := Tryz.prog, om := fun g => if g = 1000000000 then cf.b else cf.om g, an := an, X := X }
noncomputable def K0 : KE := ⟨FT, cf, 1000000, Xk, fun _ _ => none⟩
theorem gT : Tryz.prog.globalNamed "internal/strconv.uint64pow10" = some 1 := by kernel_rfl
def gam : Glob := ⟨fun w => (∃ m, w.cell? ⟨0, 0, none⟩ = some (.int .i64 m)) ∧ Lib.TabIs Tryz.prog w "internal/strconv.uint64pow10" .u64 Lib.pow10Tab, fun b => b = 0 ∨ b = 1, fun w w' ⟨⟨m, h⟩, ht⟩ k => ⟨⟨m, by rw [← h]; simp only [World.cell?, k 0 (.inl rfl)]⟩, by
 unfold Lib.TabIs World.var? at ht ⊢
 rw [gT] at ht ⊢
 simp only [Option.bind_some] at ht ⊢
 rw [k 1 (.inr rfl)]; exact ht⟩⟩
theorem tab_lt {w : World} (h : Lib.TabIs Tryz.prog w "internal/strconv.uint64pow10" .u64 Lib.pow10Tab) : 1 < w.heap.size := by
 rcases Nat.lt_or_ge 1 w.heap.size with h1 | h1
 ·exact h1
 ·unfold Lib.TabIs World.var? at h
  rw [gT] at h
  simp [Array.getElem?_eq_none h1] at h
theorem rep_sc {c : Ctx} {v u : Value} (h : Rep c (.sc v) u) : u = v := by cases h; rfl
theorem repL_one {c : Ctx} {a : Value} {vs : List Value} (h : RepL c [.sc a] vs) : vs = [a] := by
 cases h with
 | cons _ v _ ws h1 h2 =>
  cases h2
  rw [rep_sc h1]
theorem repL_two {c : Ctx} {a b : Value} {vs : List Value} (h : RepL c [.sc a, .sc b] vs) : vs = [a, b] := by
 cases h with
 | cons _ v _ ws h1 h2 =>
  cases h2 with
  | cons _ v2 _ ws2 h3 h4 =>
   cases h4
   rw [rep_sc h1, rep_sc h3]
theorem post_same {w : World} {v : Value} (hv : isSc v = true) {e : Ending} {w' : World} (h : e = .returned v ∧ w' = w) : XPost w (.sc v) e w' := by
 obtain ⟨rfl, rfl⟩ := h
 exact ⟨fun c => .sc v hv, ⟨rfl, rfl, rfl⟩, Nat.le_refl _, fun _ _ => rfl⟩
theorem post_below {w : World} {v : Value} (hv : isSc v = true) {e : Ending} {w' : World} (h : e = .returned v ∧ Below w.heap.size w w') : XPost w (.sc v) e w' := by
 obtain ⟨rfl, h⟩ := h
 exact ⟨fun c => .sc v hv, ⟨h.os, h.tape, h.output⟩, h.size, h.block⟩
theorem x_ib : Entered Tryz.prog 81 ∧ ∀ args r, XIB args = some r → closed r = true → hasLst r = false → ∀ L c vs, Inv L c → Good gam c → RepL c args vs → Calls Tryz.prog 81 vs.toArray c.w (XPost c.w r) := by
 refine ⟨⟨Tryz.f81, Tryz.func81, by kernel_rfl, by kernel_rfl⟩, fun args r h _ _ L c vs _ _ hr => ?_⟩
 unfold XIB at h
 split at h
 ·simp only [Option.some.injEq] at h
  subst h
  rw [repL_two hr]
  exact (Tryz.strings_IndexByte _ _ _).mono fun e w' h => post_same rfl h
 ·cases h
theorem x_ix : Entered Tryz.prog 82 ∧ ∀ args r, XIX args = some r → closed r = true → hasLst r = false → ∀ L c vs, Inv L c → Good gam c → RepL c args vs → Calls Tryz.prog 82 vs.toArray c.w (XPost c.w r) := by
 refine ⟨⟨Tryz.f82, Tryz.func82, by kernel_rfl, by kernel_rfl⟩, fun args r h _ _ L c vs _ hg hr => ?_⟩
 unfold XIX at h
 split at h
 ·split at h
  ·rename_i hs
   simp only [Option.some.injEq] at h
   subst h
   rw [repL_two hr]
   obtain ⟨⟨⟨m, hm⟩, _⟩, _⟩ := hg
   exact (Tryz.strings_Index _ _ m _ hs hm).mono fun e w' h => post_same rfl h
  ·cases h
 ·cases h
theorem x_fi : Entered Tryz.prog 95 ∧ ∀ args r, XF2 args = some r → closed r = true → hasLst r = false → ∀ L c vs, Inv L c → Good gam c → RepL c args vs → Calls Tryz.prog 95 vs.toArray c.w (XPost c.w r) := by
 refine ⟨⟨Tryz.f95, Tryz.func95, by kernel_rfl, by kernel_rfl⟩, fun args r h _ _ L c vs _ hg hr => ?_⟩
 unfold XF2 at h
 split at h
 ·split at h
  ·rename_i k b hs
   simp only [Option.some.injEq] at h
   subst h
   rw [repL_two hr]
   obtain ⟨h0, h1, rfl⟩ := hs
   refine (Tryz.strconv_FormatInt_10 k (by omega) h1 c.w hg.1.2).mono fun e w' h => ?_
   obtain ⟨rfl, q, os, rfl⟩ := h
   refine post_below rfl ⟨?_, Lib.below_grow _ c.w (Nat.le_refl _) q os⟩
   unfold Lib.itoa
   rw [if_neg (by omega)]
  ·cases h
 ·cases h
theorem xok : XOk Tryz.prog gam X := by
 intro f g h
 unfold X at h
 split at h
 ·rename_i e
  simp only [Option.some.injEq] at h
  subst e; subst h; exact x_ib
 split at h
 ·rename_i e
  simp only [Option.some.injEq] at h
  subst e; subst h; exact x_ix
 split at h
 ·rename_i e
  simp only [Option.some.injEq] at h
  subst e; subst h; exact x_fi
 cases h
theorem ngok : NGOk Tryz.prog := by
 intro f fn h
 have all : (Tryz.prog.funcs.toList.all fun fn => !(fn.name == "runtime.NumGoroutine")) = true := by kernel_rfl
 rw [List.all_eq_true] at all
 have := all fn (by rw [Array.mem_toList_iff]; exact Array.mem_of_getElem? h)
 simpa using this
def AllT (P : Nat → KF → Prop) : BT → Prop
 | .leaf => True
 | .node f F l r => P f F ∧ AllT P l ∧ AllT P r
theorem allT_get {P : Nat → KF → Prop} : ∀ {b : BT} {x : Nat} {F : KF}, AllT P b → b.get x = some F → P x F
 | .leaf, x, F, _, h => by cases h
 | .node f G l r, x, F, ha, h => by
  have h2 : (@Bool.rec (fun _ => Option KF) (@Bool.rec (fun _ => Option KF) (r.get x) (l.get x) (Nat.blt x f)) (some G) (Nat.beq x f)) = some F := h
  rw [br_if] at h2
  split at h2
  ·rename_i e
   rw [nbeq] at e
   simp only [Option.some.injEq] at h2
   rw [e, ← h2]; exact ha.1
  ·rw [br_if] at h2
   split at h2
   ·exact allT_get ha.2.1 h2
   ·exact allT_get ha.2.2 h2
def Fok (f : Nat) (F : KF) : Prop := dC F.c = true ∧ ∃ fn, E.P.funcs[f]? = some fn ∧ toLF E.P (E.an f) fn = some F.f
theorem okf {f : Nat} {F : KF} {fn : Func} (h1 : dC F.c = true) (h2 : E.P.funcs[f]? = some fn) (h3 : toLF E.P (E.an f) fn = some F.f) : Fok f F := ⟨h1, fn, h2, h3⟩
theorem allL {P : Nat → KF → Prop} : AllT P .leaf := trivial
theorem allN {P : Nat → KF → Prop} {f : Nat} {F : KF} {l r : BT} (h : P f F) (hl : AllT P l) (hr : AllT P r) : AllT P (.node f F l r) := ⟨h, hl, hr⟩
theorem fok : AllT Fok FT := (allN (okf (by kernel_rfl) Tryz.func84 kf_84) (allN (okf (by kernel_rfl) Tryz.func41 kf_41) (allN (okf (by kernel_rfl) Tryz.func23 kf_23) (allN (okf (by kernel_rfl) Tryz.func18 kf_18) (allN (okf (by kernel_rfl) Tryz.func16 kf_16) (allN (okf (by kernel_rfl) Tryz.func13 kf_13) allL allL) (allN (okf (by kernel_rfl) Tryz.func17 kf_17) allL allL)) (allN (okf (by kernel_rfl) Tryz.func22 kf_22) (allN (okf (by kernel_rfl) Tryz.func19 kf_19) allL allL) allL)) (allN (okf (by kernel_rfl) Tryz.func37 kf_37) (allN (okf (by kernel_rfl) Tryz.func32 kf_32) (allN (okf (by kernel_rfl) Tryz.func29 kf_29) allL allL) (allN (okf (by kernel_rfl) Tryz.func35 kf_35) allL allL)) (allN (okf (by kernel_rfl) Tryz.func40 kf_40) (allN (okf (by kernel_rfl) Tryz.func39 kf_39) allL allL) allL))) (allN (okf (by kernel_rfl) Tryz.func55 kf_55) (allN (okf (by kernel_rfl) Tryz.func52 kf_52) (allN (okf (by kernel_rfl) Tryz.func44 kf_44) (allN (okf (by kernel_rfl) Tryz.func42 kf_42) allL allL) (allN (okf (by kernel_rfl) Tryz.func45 kf_45) allL allL)) (allN (okf (by kernel_rfl) Tryz.func54 kf_54) (allN (okf (by kernel_rfl) Tryz.func53 kf_53) allL allL) allL)) (allN (okf (by kernel_rfl) Tryz.func62 kf_62) (allN (okf (by kernel_rfl) Tryz.func60 kf_60) (allN (okf (by kernel_rfl) Tryz.func56 kf_56) allL allL) allL) (allN (okf (by kernel_rfl) Tryz.func83 kf_83) (allN (okf (by kernel_rfl) Tryz.func72 kf_72) allL allL) allL)))) (allN (okf (by kernel_rfl) Tryz.func117 kf_117) (allN (okf (by kernel_rfl) Tryz.func92 kf_92) (allN (okf (by kernel_rfl) Tryz.func88 kf_88) (allN (okf (by kernel_rfl) Tryz.func86 kf_86) (allN (okf (by kernel_rfl) Tryz.func85 kf_85) allL allL) (allN (okf (by kernel_rfl) Tryz.func87 kf_87) allL allL)) (allN (okf (by kernel_rfl) Tryz.func91 kf_91) (allN (okf (by kernel_rfl) Tryz.func90 kf_90) allL allL) allL)) (allN (okf (by kernel_rfl) Tryz.func98 kf_98) (allN (okf (by kernel_rfl) Tryz.func94 kf_94) (allN (okf (by kernel_rfl) Tryz.func93 kf_93) allL allL) (allN (okf (by kernel_rfl) Tryz.func97 kf_97) allL allL)) (allN (okf (by kernel_rfl) Tryz.func116 kf_116) (allN (okf (by kernel_rfl) Tryz.func104 kf_104) allL allL) allL))) (allN (okf (by kernel_rfl) Tryz.func151 kf_151) (allN (okf (by kernel_rfl) Tryz.func143 kf_143) (allN (okf (by kernel_rfl) Tryz.func141 kf_141) (allN (okf (by kernel_rfl) Tryz.func118 kf_118) allL allL) (allN (okf (by kernel_rfl) Tryz.func142 kf_142) allL allL)) (allN (okf (by kernel_rfl) Tryz.func146 kf_146) (allN (okf (by kernel_rfl) Tryz.func145 kf_145) allL allL) allL)) (allN (okf (by kernel_rfl) Tryz.func168 kf_168) (allN (okf (by kernel_rfl) Tryz.func167 kf_167) (allN (okf (by kernel_rfl) Tryz.func166 kf_166) allL allL) allL) (allN (okf (by kernel_rfl) Tryz.func186 kf_186) (allN (okf (by kernel_rfl) Tryz.func183 kf_183) allL allL) allL)))))
theorem xk_none {f : Nat} (h : Xk f = none) : X f = none := by
 unfold Xk at h
 unfold X
 simp only [cond_eq_ite, nbeq] at h
 repeat' split at h
 all_goals first | (simp_all; done) | cases h
theorem xk_some {f : Nat} {g : List V → Option V} (h : Xk f = some g) : ∃ g', X f = some g' ∧ ∀ args v, g args = some v → g' (V.tL args) = some v.t := by
 unfold Xk at h
 unfold X
 simp only [cond_eq_ite, nbeq] at h
 split at h
 ·rename_i e
  simp only [Option.some.injEq] at h
  subst h
  simp only [e]
  exact ⟨_, rfl, fun args v h => kIB_t h⟩
 rename_i e
 simp only [e, if_false]
 split at h
 ·rename_i e
  simp only [Option.some.injEq] at h
  subst h
  simp only [e]
  exact ⟨_, rfl, fun args v h => kIX_t h⟩
 rename_i e
 simp only [e, if_false]
 split at h
 ·rename_i e
  simp only [Option.some.injEq] at h
  subst h
  simp only [e]
  exact ⟨_, rfl, fun args v h => kF2_t h⟩
 rename_i e
 simp only [e, if_false]
 cases h
theorem kok : KEOk K0 E where
 om := rfl
 X := fun f g h => xk_some h
 F := fun f F hx hF => ⟨(allT_get fok hF).1, xk_none hx, (allT_get fok hF).2⟩
 M := fun f args v h => by cases h
theorem calls_of {f : Nat} {v : Value} {S : Store} (h : callF E 0 f [] emp = some (.sc v, S)) (w : World) (hm : ∃ m, w.cell? ⟨0, 0, none⟩ = some (.int .i64 m)) (ht : Lib.TabIs Tryz.prog w "internal/strconv.uint64pow10" .u64 Lib.pow10Tab) : Calls Tryz.prog f #[] w fun e w' => e = .returned v ∧ Below w.heap.size w w' := by
 have hs := (callF_sound (γ := gam) xok ngok 0 f [] emp _ _ h).2
 have hlt : 0 < w.heap.size := by
  obtain ⟨m, hm⟩ := hm
  rcases Nat.lt_or_ge 0 w.heap.size with h | h
  ·exact h
  ·simp [World.cell?, Array.getElem?_eq_none h] at hm
 have := hs ⟨emp, fun _ => False, fun _ => 0, fun b => b < w.heap.size, w⟩ [] rfl
  ⟨⟨fun l bt cs hD => hD.elim, fun l ro g sz e xs hD => hD.elim, fun l hD => hD.elim, fun l l' hD => hD.elim, fun b hb => hb, fun l hD => hD.elim⟩, fun l hD => hD.elim, fun l hl => absurd rfl hl⟩
  ⟨⟨hm, ht⟩, fun b hb => by
   rcases hb with rfl | rfl
   ·exact hlt
   ·exact tab_lt ht⟩ .nil
 refine Calls.mono this fun e w' he => ?_
 cases e with
 | panicked ch => exact he.elim
 | outgrown => exact he.elim
 | returned u =>
  obtain ⟨c', rfl, hl⟩ := he
  refine ⟨by rw [rep_sc hl.rep], ⟨hl.fr.os, hl.fr.tape, hl.fr.output, hl.fr.size, fun k hk => hl.fr.blk k hk fun l hD => hD.elim⟩⟩
end Go.TM.A7
