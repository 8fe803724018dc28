/- What the functions of the library that are not run come to; the evaluators' tables. -/
import Derived.Test.YtnjihnjonhmflaaGreatDoorTmKx
import Derived.Test.YtnjihnjonhmflaaGreatDoorP8W
import Derived.Test.YtnjihnjonhmflaaGreatDoorP8KF
import Derived.Test.YtnjihnjonhmflaaGreatDoorShelf
import Derived.KernelRfl
set_option linter.all false
namespace Go.TM.P8
open Go Go.TM Go.Proofs Go.RowKit
set_option linter.unusedVariables false
set_option linter.unusedSimpArgs false
set_option maxRecDepth 1000000

def X (f : FuncId) : Option (List T → Option T) := if f = 87 then some XIX else if f = 81 then some XFI else if f = 52 then some (XTB tab_un) else if f = 53 then some (XTB tab_bi) else none
noncomputable def Xk (f : Nat) : Option (List V → Option V) := bif Nat.beq f 87 then some kIX else bif Nat.beq f 81 then some kFI else bif Nat.beq f 52 then some (kTB tab_un) else bif Nat.beq f 53 then some (kTB tab_bi) else none
def cf : Cf := ⟨[5], fun g => bif Nat.beq g 20 then [1000] else bif Nat.beq g 35 then [1000] else bif Nat.beq g 50 then [1000] else bif Nat.beq g 85 then [1] else []⟩
noncomputable def E : Env := { P := Tryz.prog, om := fun g => if g = 1000000000 then cf.b else cf.om g, an := an, X := X }
noncomputable def K0 : KE := ⟨FT, cf, 1000000, Xk, fun _ _ => none⟩
/-- What the library reads of its own holds some number. -/
def gam : Glob := ⟨fun w => ∃ m, w.cell? ⟨0, 0, none⟩ = some (.int .i64 m), fun b => b = 0, fun w w' ⟨m, h⟩ k => ⟨m, by rw [← h]; simp only [World.cell?, k 0 rfl]⟩⟩

theorem rep_sc {c : Ctx} {v u : Value} (h : Rep c (.sc v) u) : u = v := by cases h; rfl
theorem repL_one {c : Ctx} {a : Value} {vs : List Value} (h : RepL c [.sc a] vs) : vs = [a] := by
 cases h with
 | cons _ v _ ws h1 h2 =>
  cases h2
  rw [rep_sc h1]
theorem repL_two {c : Ctx} {a b : Value} {vs : List Value} (h : RepL c [.sc a, .sc b] vs) : vs = [a, b] := by
 cases h with
 | cons _ v _ ws h1 h2 =>
  cases h2 with
  | cons _ v2 _ ws2 h3 h4 =>
   cases h4
   rw [rep_sc h1, rep_sc h3]
theorem post_same {w : World} {v : Value} (hv : isSc v = true) {e : Ending} {w' : World} (h : e = .returned v ∧ w' = w) : XPost w (.sc v) e w' := by
 obtain ⟨rfl, rfl⟩ := h
 exact ⟨fun c => .sc v hv, ⟨rfl, rfl, rfl⟩, Nat.le_refl _, fun _ _ => rfl⟩
theorem post_below {w : World} {v : Value} (hv : isSc v = true) {e : Ending} {w' : World} (h : e = .returned v ∧ Below w.heap.size w w') : XPost w (.sc v) e w' := by
 obtain ⟨rfl, h⟩ := h
 exact ⟨fun c => .sc v hv, ⟨h.os, h.tape, h.output⟩, h.size, h.block⟩
theorem x_ix : Entered Tryz.prog 87 ∧ ∀ args r, XIX args = some r → closed r = true → hasLst r = false → ∀ L c vs, Inv L c → Good gam c → RepL c args vs → Calls Tryz.prog 87 vs.toArray c.w (XPost c.w r) := by
 refine ⟨⟨Tryz.f87, Tryz.func87, by kernel_rfl, by kernel_rfl⟩, fun args r h _ _ L c vs _ hg hr => ?_⟩
 unfold XIX at h
 split at h
 ·split at h
  ·rename_i hs
   simp only [Option.some.injEq] at h
   subst h
   rw [repL_two hr]
   obtain ⟨⟨m, hm⟩, _⟩ := hg
   exact (Tryz.strings_Index _ _ m _ hs hm).mono fun e w' h => post_same rfl h
  ·cases h
 ·cases h
theorem x_fi : Entered Tryz.prog 81 ∧ ∀ args r, XFI args = some r → closed r = true → hasLst r = false → ∀ L c vs, Inv L c → Good gam c → RepL c args vs → Calls Tryz.prog 81 vs.toArray c.w (XPost c.w r) := by
 refine ⟨⟨Tryz.f81, Tryz.func81, by kernel_rfl, by kernel_rfl⟩, fun args r h _ _ L c vs _ _ hr => ?_⟩
 unfold XFI at h
 split at h
 ·split at h
  ·rename_i k b hs
   simp only [Option.some.injEq] at h
   subst h
   rw [repL_two hr]
   obtain ⟨h0, h1, rfl⟩ := hs
   have hk : ((k.toNat : Nat) : Int) = k := Int.toNat_of_nonneg h0
   have := Tryz.strconv_FormatInt_10_small k.toNat (by omega) c.w
   rw [hk] at this
   exact this.mono fun e w' h => post_same rfl h
  ·cases h
 ·cases h
theorem x_tun : Entered Tryz.prog 52 ∧ ∀ args r, XTB tab_un args = some r → closed r = true → hasLst r = false → ∀ L c vs, Inv L c → Good gam c → RepL c args vs → Calls Tryz.prog 52 vs.toArray c.w (XPost c.w r) := by
 refine ⟨⟨Tryz.f52, Tryz.func52, by kernel_rfl, by kernel_rfl⟩, fun args r h _ _ L c vs _ _ hr => ?_⟩
 unfold XTB at h
 split at h
 ·rename_i n
  split at h
  ·rename_i p hp
   simp only [Option.some.injEq] at h
   subst h
   obtain ⟨a, rfl, hw⟩ := lkT_all (tab := tab_un) (Q := fun a p => ∀ w, Calls Tryz.prog 52 #[.int .u8 (a : Int)] w fun e w' => e = .returned (.string (bstr p.1 p.2)) ∧ w' = w) ws_un hp
   rw [repL_one hr]
   exact (hw _).mono fun e w' h => post_same rfl h
  ·cases h
 ·cases h
theorem x_tbi : Entered Tryz.prog 53 ∧ ∀ args r, XTB tab_bi args = some r → closed r = true → hasLst r = false → ∀ L c vs, Inv L c → Good gam c → RepL c args vs → Calls Tryz.prog 53 vs.toArray c.w (XPost c.w r) := by
 refine ⟨⟨Tryz.f53, Tryz.func53, by kernel_rfl, by kernel_rfl⟩, fun args r h _ _ L c vs _ _ hr => ?_⟩
 unfold XTB at h
 split at h
 ·rename_i n
  split at h
  ·rename_i p hp
   simp only [Option.some.injEq] at h
   subst h
   obtain ⟨a, rfl, hw⟩ := lkT_all (tab := tab_bi) (Q := fun a p => ∀ w, Calls Tryz.prog 53 #[.int .u8 (a : Int)] w fun e w' => e = .returned (.string (bstr p.1 p.2)) ∧ w' = w) ws_bi hp
   rw [repL_one hr]
   exact (hw _).mono fun e w' h => post_same rfl h
  ·cases h
 ·cases h
theorem xok : XOk Tryz.prog gam X := by
 intro f g h
 unfold X at h
 split at h
 ·rename_i e
  simp only [Option.some.injEq] at h
  subst e; subst h; exact x_ix
 split at h
 ·rename_i e
  simp only [Option.some.injEq] at h
  subst e; subst h; exact x_fi
 split at h
 ·rename_i e
  simp only [Option.some.injEq] at h
  subst e; subst h; exact x_tun
 split at h
 ·rename_i e
  simp only [Option.some.injEq] at h
  subst e; subst h; exact x_tbi
 cases h
theorem ngok : NGOk Tryz.prog := by
 intro f fn h
 have all : (Tryz.prog.funcs.toList.all fun fn => !(fn.name == "runtime.NumGoroutine")) = true := by kernel_rfl
 rw [List.all_eq_true] at all
 have := all fn (by rw [Array.mem_toList_iff]; exact Array.mem_of_getElem? h)
 simpa using this
/-- All functions of the table. -/
def AllT (P : Nat → KF → Prop) : BT → Prop
 | .leaf => True
 | .node f F l r => P f F ∧ AllT P l ∧ AllT P r
theorem allT_get {P : Nat → KF → Prop} : ∀ {b : BT} {x : Nat} {F : KF}, AllT P b → b.get x = some F → P x F
 | .leaf, x, F, _, h => by cases h
 | .node f G l r, x, F, ha, h => by
  have h2 : (@Bool.rec (fun _ => Option KF) (@Bool.rec (fun _ => Option KF) (r.get x) (l.get x) (Nat.blt x f)) (some G) (Nat.beq x f)) = some F := h
  rw [br_if] at h2
  split at h2
  ·rename_i e
   rw [nbeq] at e
   simp only [Option.some.injEq] at h2
   rw [e, ← h2]; exact ha.1
  ·rw [br_if] at h2
   split at h2
   ·exact allT_get ha.2.1 h2
   ·exact allT_get ha.2.2 h2
def Fok (f : Nat) (F : KF) : Prop := dC F.c = true ∧ ∃ fn, E.P.funcs[f]? = some fn ∧ toLF E.P (E.an f) fn = some F.f
theorem okf {f : Nat} {F : KF} {fn : Func} (h1 : dC F.c = true) (h2 : E.P.funcs[f]? = some fn) (h3 : toLF E.P (E.an f) fn = some F.f) : Fok f F := ⟨h1, fn, h2, h3⟩
theorem allL {P : Nat → KF → Prop} : AllT P .leaf := trivial
theorem allN {P : Nat → KF → Prop} {f : Nat} {F : KF} {l r : BT} (h : P f F) (hl : AllT P l) (hr : AllT P r) : AllT P (.node f F l r) := ⟨h, hl, hr⟩
theorem fok : AllT Fok FT := (allN (okf (by kernel_rfl) Tryz.func56 kf_56) (allN (okf (by kernel_rfl) Tryz.func29 kf_29) (allN (okf (by kernel_rfl) Tryz.func16 kf_16) (allN (okf (by kernel_rfl) Tryz.func9 kf_9) (allN (okf (by kernel_rfl) Tryz.func6 kf_6) (allN (okf (by kernel_rfl) Tryz.func5 kf_5) (allN (okf (by kernel_rfl) Tryz.func3 kf_3) allL allL) allL) (allN (okf (by kernel_rfl) Tryz.func8 kf_8) (allN (okf (by kernel_rfl) Tryz.func7 kf_7) allL allL) allL)) (allN (okf (by kernel_rfl) Tryz.func13 kf_13) (allN (okf (by kernel_rfl) Tryz.func11 kf_11) (allN (okf (by kernel_rfl) Tryz.func10 kf_10) allL allL) allL) (allN (okf (by kernel_rfl) Tryz.func15 kf_15) allL allL))) (allN (okf (by kernel_rfl) Tryz.func23 kf_23) (allN (okf (by kernel_rfl) Tryz.func20 kf_20) (allN (okf (by kernel_rfl) Tryz.func19 kf_19) (allN (okf (by kernel_rfl) Tryz.func18 kf_18) allL allL) allL) (allN (okf (by kernel_rfl) Tryz.func21 kf_21) allL allL)) (allN (okf (by kernel_rfl) Tryz.func27 kf_27) (allN (okf (by kernel_rfl) Tryz.func26 kf_26) (allN (okf (by kernel_rfl) Tryz.func25 kf_25) allL allL) allL) (allN (okf (by kernel_rfl) Tryz.func28 kf_28) allL allL)))) (allN (okf (by kernel_rfl) Tryz.func41 kf_41) (allN (okf (by kernel_rfl) Tryz.func36 kf_36) (allN (okf (by kernel_rfl) Tryz.func34 kf_34) (allN (okf (by kernel_rfl) Tryz.func31 kf_31) (allN (okf (by kernel_rfl) Tryz.func30 kf_30) allL allL) allL) (allN (okf (by kernel_rfl) Tryz.func35 kf_35) allL allL)) (allN (okf (by kernel_rfl) Tryz.func39 kf_39) (allN (okf (by kernel_rfl) Tryz.func38 kf_38) (allN (okf (by kernel_rfl) Tryz.func37 kf_37) allL allL) allL) (allN (okf (by kernel_rfl) Tryz.func40 kf_40) allL allL))) (allN (okf (by kernel_rfl) Tryz.func49 kf_49) (allN (okf (by kernel_rfl) Tryz.func46 kf_46) (allN (okf (by kernel_rfl) Tryz.func45 kf_45) (allN (okf (by kernel_rfl) Tryz.func42 kf_42) allL allL) allL) (allN (okf (by kernel_rfl) Tryz.func48 kf_48) allL allL)) (allN (okf (by kernel_rfl) Tryz.func54 kf_54) (allN (okf (by kernel_rfl) Tryz.func51 kf_51) (allN (okf (by kernel_rfl) Tryz.func50 kf_50) allL allL) allL) (allN (okf (by kernel_rfl) Tryz.func55 kf_55) allL allL))))) (allN (okf (by kernel_rfl) Tryz.func80 kf_80) (allN (okf (by kernel_rfl) Tryz.func70 kf_70) (allN (okf (by kernel_rfl) Tryz.func62 kf_62) (allN (okf (by kernel_rfl) Tryz.func60 kf_60) (allN (okf (by kernel_rfl) Tryz.func59 kf_59) (allN (okf (by kernel_rfl) Tryz.func57 kf_57) allL allL) allL) (allN (okf (by kernel_rfl) Tryz.func61 kf_61) allL allL)) (allN (okf (by kernel_rfl) Tryz.func67 kf_67) (allN (okf (by kernel_rfl) Tryz.func66 kf_66) (allN (okf (by kernel_rfl) Tryz.func63 kf_63) allL allL) allL) (allN (okf (by kernel_rfl) Tryz.func68 kf_68) allL allL))) (allN (okf (by kernel_rfl) Tryz.func75 kf_75) (allN (okf (by kernel_rfl) Tryz.func73 kf_73) (allN (okf (by kernel_rfl) Tryz.func72 kf_72) (allN (okf (by kernel_rfl) Tryz.func71 kf_71) allL allL) allL) (allN (okf (by kernel_rfl) Tryz.func74 kf_74) allL allL)) (allN (okf (by kernel_rfl) Tryz.func78 kf_78) (allN (okf (by kernel_rfl) Tryz.func77 kf_77) (allN (okf (by kernel_rfl) Tryz.func76 kf_76) allL allL) allL) (allN (okf (by kernel_rfl) Tryz.func79 kf_79) allL allL)))) (allN (okf (by kernel_rfl) Tryz.func95 kf_95) (allN (okf (by kernel_rfl) Tryz.func90 kf_90) (allN (okf (by kernel_rfl) Tryz.func88 kf_88) (allN (okf (by kernel_rfl) Tryz.func85 kf_85) (allN (okf (by kernel_rfl) Tryz.func84 kf_84) allL allL) allL) (allN (okf (by kernel_rfl) Tryz.func89 kf_89) allL allL)) (allN (okf (by kernel_rfl) Tryz.func93 kf_93) (allN (okf (by kernel_rfl) Tryz.func92 kf_92) (allN (okf (by kernel_rfl) Tryz.func91 kf_91) allL allL) allL) (allN (okf (by kernel_rfl) Tryz.func94 kf_94) allL allL))) (allN (okf (by kernel_rfl) Tryz.func121 kf_121) (allN (okf (by kernel_rfl) Tryz.func119 kf_119) (allN (okf (by kernel_rfl) Tryz.func118 kf_118) (allN (okf (by kernel_rfl) Tryz.func103 kf_103) allL allL) allL) (allN (okf (by kernel_rfl) Tryz.func120 kf_120) allL allL)) (allN (okf (by kernel_rfl) Tryz.func139 kf_139) (allN (okf (by kernel_rfl) Tryz.func138 kf_138) (allN (okf (by kernel_rfl) Tryz.func137 kf_137) allL allL) allL) (allN (okf (by kernel_rfl) Tryz.func153 kf_153) allL allL))))))
theorem xk_none {f : Nat} (h : Xk f = none) : X f = none := by
 unfold Xk at h
 unfold X
 simp only [cond_eq_ite, nbeq] at h
 repeat' split at h
 all_goals first | (simp_all; done) | cases h
theorem xk_some {f : Nat} {g : List V → Option V} (h : Xk f = some g) : ∃ g', X f = some g' ∧ ∀ args v, g args = some v → g' (V.tL args) = some v.t := by
 unfold Xk at h
 unfold X
 simp only [cond_eq_ite, nbeq] at h
 split at h
 ·rename_i e
  simp only [Option.some.injEq] at h
  subst h
  simp only [e]
  exact ⟨_, rfl, fun args v h => kIX_t h⟩
 rename_i e
 simp only [e, if_false]
 split at h
 ·rename_i e
  simp only [Option.some.injEq] at h
  subst h
  simp only [e]
  exact ⟨_, rfl, fun args v h => kFI_t h⟩
 rename_i e
 simp only [e, if_false]
 split at h
 ·rename_i e
  simp only [Option.some.injEq] at h
  subst h
  simp only [e]
  exact ⟨_, rfl, fun args v h => kTB_t h⟩
 rename_i e
 simp only [e, if_false]
 split at h
 ·rename_i e
  simp only [Option.some.injEq] at h
  subst h
  simp only [e]
  exact ⟨_, rfl, fun args v h => kTB_t h⟩
 rename_i e
 simp only [e, if_false]
 cases h
theorem kok : KEOk K0 E where
 om := rfl
 X := fun f g h => xk_some h
 F := fun f F hx hF => ⟨(allT_get fok hF).1, xk_none hx, (allT_get fok hF).2⟩
 M := fun f args v h => by cases h
/-- What a run in the kernel says of the call itself. -/
theorem calls_of {f : Nat} {v : Value} {S : Store} (h : callF E 0 f [] emp = some (.sc v, S)) (w : World) (hm : ∃ m, w.cell? ⟨0, 0, none⟩ = some (.int .i64 m)) : Calls Tryz.prog f #[] w fun e w' => e = .returned v ∧ Below w.heap.size w w' := by
 have hs := (callF_sound (γ := gam) xok ngok 0 f [] emp _ _ h).2
 have hlt : 0 < w.heap.size := by
  obtain ⟨m, hm⟩ := hm
  rcases Nat.lt_or_ge 0 w.heap.size with h | h
  ·exact h
  ·simp [World.cell?, Array.getElem?_eq_none h] at hm
 have := hs ⟨emp, fun _ => False, fun _ => 0, fun b => b < w.heap.size, w⟩ [] rfl
  ⟨⟨fun l bt cs hD => hD.elim, fun l ro g sz e xs hD => hD.elim, fun l hD => hD.elim, fun l l' hD => hD.elim, fun b hb => hb, fun l hD => hD.elim⟩, fun l hD => hD.elim, fun l hl => absurd rfl hl⟩
  ⟨hm, fun b hb => by
   have : b = 0 := hb
   subst this; exact hlt⟩ .nil
 refine Calls.mono this fun e w' he => ?_
 cases e with
 | panicked ch => exact he.elim
 | outgrown => exact he.elim
 | returned u =>
  obtain ⟨c', rfl, hl⟩ := he
  refine ⟨by rw [rep_sc hl.rep], ⟨hl.fr.os, hl.fr.tape, hl.fr.output, hl.fr.size, fun k hk => hl.fr.blk k hk fun l hD => hD.elim⟩⟩
end Go.TM.P8
