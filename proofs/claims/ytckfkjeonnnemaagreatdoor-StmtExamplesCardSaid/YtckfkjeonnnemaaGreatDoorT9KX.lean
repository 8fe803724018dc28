/- What the functions of the library that are not run come to; the evaluators' tables. -/
import Derived.Test.YtckfkjeonnnemaaGreatDoorTmKn
import Derived.Test.YtckfkjeonnnemaaGreatDoorT9KW
import Derived.Test.YtckfkjeonnnemaaGreatDoorT9KF
import Derived.Test.YtckfkjeonnnemaaGreatDoorShelf
import Derived.KernelRfl
set_option linter.all false
namespace Go.TM.K9
open Go Go.TM Go.Proofs Go.RowKit
set_option linter.unusedVariables false
set_option linter.unusedSimpArgs false
set_option maxRecDepth 1000000

def X (f : FuncId) : Option (List T → Option T) := if f = 164 then some XIX else if f = 79 then some XF2 else if f = 149 then some (XTB tab_un) else if f = 119 then some (XTB tab_bi) else none
noncomputable def Xk (f : Nat) : Option (List V → Option V) := bif Nat.beq f 164 then some kIX else bif Nat.beq f 79 then some kF2 else bif Nat.beq f 149 then some (kTB tab_un) else bif Nat.beq f 119 then some (kTB tab_bi) else none
def cf : Cf := ⟨[5, 9], fun g => bif Nat.beq g 15 then [1000, 3000] else bif Nat.beq g 17 then [1000] else bif Nat.beq g 24 then [1000] else bif Nat.beq g 28 then [0, 1000, 3000] else bif Nat.beq g 38 then [1000] else bif Nat.beq g 53 then [1000] else bif Nat.beq g 88 then [1000] else bif Nat.beq g 91 then [1000] else bif Nat.beq g 92 then [1000] else bif Nat.beq g 139 then [1000] else bif Nat.beq g 180 then [1] else bif Nat.beq g 183 then [1000] else bif Nat.beq g 245 then [1000, 3000] else bif Nat.beq g 248 then [2000] else bif Nat.beq g 1000000002 then [1000039] else []⟩
noncomputable def E : Env := { P := Tryz.prog, om := fun g => if g = 1000000000 then cf.b else cf.om g, an := an, X := X }
noncomputable def K0 : KE := ⟨FT, cf, 1000000, Xk, fun _ _ => none⟩
theorem gT : Tryz.prog.globalNamed "internal/strconv.uint64pow10" = some 0 := by kernel_rfl
/-- What the library reads of its own holds some number; its table of powers is there. -/
def gam : Glob := ⟨fun w => (∃ m, w.cell? ⟨1, 0, none⟩ = some (.int .i64 m)) ∧ Lib.TabIs Tryz.prog w "internal/strconv.uint64pow10" .u64 Lib.pow10Tab, fun b => b = 1 ∨ b = 0, fun w w' ⟨⟨m, h⟩, ht⟩ k => ⟨⟨m, by rw [← h]; simp only [World.cell?, k 1 (.inl rfl)]⟩, by
 unfold Lib.TabIs World.var? at ht ⊢
 rw [gT] at ht ⊢
 simp only [Option.bind_some] at ht ⊢
 rw [k 0 (.inr rfl)]; exact ht⟩⟩
theorem tab_lt {w : World} (h : Lib.TabIs Tryz.prog w "internal/strconv.uint64pow10" .u64 Lib.pow10Tab) : 0 < w.heap.size := by
 rcases Nat.lt_or_ge 0 w.heap.size with h1 | h1
 ·exact h1
 ·unfold Lib.TabIs World.var? at h
  rw [gT] at h
  simp [Array.getElem?_eq_none h1] at h

theorem rep_sc {c : Ctx} {v u : Value} (h : Rep c (.sc v) u) : u = v := by cases h; rfl
theorem repL_one {c : Ctx} {a : Value} {vs : List Value} (h : RepL c [.sc a] vs) : vs = [a] := by
 cases h with
 | cons _ v _ ws h1 h2 =>
  cases h2
  rw [rep_sc h1]
theorem repL_two {c : Ctx} {a b : Value} {vs : List Value} (h : RepL c [.sc a, .sc b] vs) : vs = [a, b] := by
 cases h with
 | cons _ v _ ws h1 h2 =>
  cases h2 with
  | cons _ v2 _ ws2 h3 h4 =>
   cases h4
   rw [rep_sc h1, rep_sc h3]
theorem post_same {w : World} {v : Value} (hv : isSc v = true) {e : Ending} {w' : World} (h : e = .returned v ∧ w' = w) : XPost w (.sc v) e w' := by
 obtain ⟨rfl, rfl⟩ := h
 exact ⟨fun c => .sc v hv, ⟨rfl, rfl, rfl⟩, Nat.le_refl _, fun _ _ => rfl⟩
theorem post_below {w : World} {v : Value} (hv : isSc v = true) {e : Ending} {w' : World} (h : e = .returned v ∧ Below w.heap.size w w') : XPost w (.sc v) e w' := by
 obtain ⟨rfl, h⟩ := h
 exact ⟨fun c => .sc v hv, ⟨h.os, h.tape, h.output⟩, h.size, h.block⟩
theorem x_ix : Entered Tryz.prog 164 ∧ ∀ args r, XIX args = some r → closed r = true → hasLst r = false → ∀ L c vs, Inv L c → Good gam c → RepL c args vs → Calls Tryz.prog 164 vs.toArray c.w (XPost c.w r) := by
 refine ⟨⟨Tryz.f164, Tryz.func164, by kernel_rfl, by kernel_rfl⟩, fun args r h _ _ L c vs _ hg hr => ?_⟩
 unfold XIX at h
 split at h
 ·split at h
  ·rename_i hs
   simp only [Option.some.injEq] at h
   subst h
   rw [repL_two hr]
   obtain ⟨⟨⟨m, hm⟩, _⟩, _⟩ := hg
   exact (Tryz.strings_Index _ _ m _ hs hm).mono fun e w' h => post_same rfl h
  ·cases h
 ·cases h
theorem x_fi : Entered Tryz.prog 79 ∧ ∀ args r, XF2 args = some r → closed r = true → hasLst r = false → ∀ L c vs, Inv L c → Good gam c → RepL c args vs → Calls Tryz.prog 79 vs.toArray c.w (XPost c.w r) := by
 refine ⟨⟨Tryz.f79, Tryz.func79, by kernel_rfl, by kernel_rfl⟩, fun args r h _ _ L c vs _ hg hr => ?_⟩
 unfold XF2 at h
 split at h
 ·split at h
  ·rename_i k b hs
   simp only [Option.some.injEq] at h
   subst h
   rw [repL_two hr]
   obtain ⟨h0, h1, rfl⟩ := hs
   refine (Tryz.strconv_FormatInt_10 k (by omega) h1 c.w hg.1.2).mono fun e w' h => ?_
   obtain ⟨rfl, q, os, rfl⟩ := h
   refine post_below rfl ⟨?_, Lib.below_grow _ c.w (Nat.le_refl _) q os⟩
   unfold Lib.itoa
   rw [if_neg (by omega)]
  ·cases h
 ·cases h
theorem x_tun : Entered Tryz.prog 149 ∧ ∀ args r, XTB tab_un args = some r → closed r = true → hasLst r = false → ∀ L c vs, Inv L c → Good gam c → RepL c args vs → Calls Tryz.prog 149 vs.toArray c.w (XPost c.w r) := by
 refine ⟨⟨Tryz.f149, Tryz.func149, by kernel_rfl, by kernel_rfl⟩, fun args r h _ _ L c vs _ _ hr => ?_⟩
 unfold XTB at h
 split at h
 ·rename_i n
  split at h
  ·rename_i p hp
   simp only [Option.some.injEq] at h
   subst h
   obtain ⟨a, rfl, hw⟩ := lkT_all (tab := tab_un) (Q := fun a p => ∀ w, Calls Tryz.prog 149 #[.int .u8 (a : Int)] w fun e w' => e = .returned (.string (bstr p.1 p.2)) ∧ w' = w) ws_un hp
   rw [repL_one hr]
   exact (hw _).mono fun e w' h => post_same rfl h
  ·cases h
 ·cases h
theorem x_tbi : Entered Tryz.prog 119 ∧ ∀ args r, XTB tab_bi args = some r → closed r = true → hasLst r = false → ∀ L c vs, Inv L c → Good gam c → RepL c args vs → Calls Tryz.prog 119 vs.toArray c.w (XPost c.w r) := by
 refine ⟨⟨Tryz.f119, Tryz.func119, by kernel_rfl, by kernel_rfl⟩, fun args r h _ _ L c vs _ _ hr => ?_⟩
 unfold XTB at h
 split at h
 ·rename_i n
  split at h
  ·rename_i p hp
   simp only [Option.some.injEq] at h
   subst h
   obtain ⟨a, rfl, hw⟩ := lkT_all (tab := tab_bi) (Q := fun a p => ∀ w, Calls Tryz.prog 119 #[.int .u8 (a : Int)] w fun e w' => e = .returned (.string (bstr p.1 p.2)) ∧ w' = w) ws_bi hp
   rw [repL_one hr]
   exact (hw _).mono fun e w' h => post_same rfl h
  ·cases h
 ·cases h
theorem xok : XOk Tryz.prog gam X := by
 intro f g h
 unfold X at h
 split at h
 ·rename_i e
  simp only [Option.some.injEq] at h
  subst e; subst h; exact x_ix
 split at h
 ·rename_i e
  simp only [Option.some.injEq] at h
  subst e; subst h; exact x_fi
 split at h
 ·rename_i e
  simp only [Option.some.injEq] at h
  subst e; subst h; exact x_tun
 split at h
 ·rename_i e
  simp only [Option.some.injEq] at h
  subst e; subst h; exact x_tbi
 cases h
theorem ngok : NGOk Tryz.prog := by
 intro f fn h
 have all : (Tryz.prog.funcs.toList.all fun fn => !(fn.name == "runtime.NumGoroutine")) = true := by kernel_rfl
 rw [List.all_eq_true] at all
 have := all fn (by rw [Array.mem_toList_iff]; exact Array.mem_of_getElem? h)
 simpa using this
/-- All functions of the table. -/
def AllT (P : Nat → KF → Prop) : BT → Prop
 | .leaf => True
 | .node f F l r => P f F ∧ AllT P l ∧ AllT P r
theorem allT_get {P : Nat → KF → Prop} : ∀ {b : BT} {x : Nat} {F : KF}, AllT P b → b.get x = some F → P x F
 | .leaf, x, F, _, h => by cases h
 | .node f G l r, x, F, ha, h => by
  have h2 : (@Bool.rec (fun _ => Option KF) (@Bool.rec (fun _ => Option KF) (r.get x) (l.get x) (Nat.blt x f)) (some G) (Nat.beq x f)) = some F := h
  rw [br_if] at h2
  split at h2
  ·rename_i e
   rw [nbeq] at e
   simp only [Option.some.injEq] at h2
   rw [e, ← h2]; exact ha.1
  ·rw [br_if] at h2
   split at h2
   ·exact allT_get ha.2.1 h2
   ·exact allT_get ha.2.2 h2
def Fok (f : Nat) (F : KF) : Prop := dC F.c = true ∧ ∃ fn, E.P.funcs[f]? = some fn ∧ toLF E.P (E.an f) fn = some F.f
theorem okf {f : Nat} {F : KF} {fn : Func} (h1 : dC F.c = true) (h2 : E.P.funcs[f]? = some fn) (h3 : toLF E.P (E.an f) fn = some F.f) : Fok f F := ⟨h1, fn, h2, h3⟩
theorem allL {P : Nat → KF → Prop} : AllT P .leaf := trivial
theorem allN {P : Nat → KF → Prop} {f : Nat} {F : KF} {l r : BT} (h : P f F) (hl : AllT P l) (hr : AllT P r) : AllT P (.node f F l r) := ⟨h, hl, hr⟩
theorem fok : AllT Fok FT := (allN (okf (by kernel_rfl) Tryz.func98 kf_98) (allN (okf (by kernel_rfl) Tryz.func49 kf_49) (allN (okf (by kernel_rfl) Tryz.func26 kf_26) (allN (okf (by kernel_rfl) Tryz.func14 kf_14) (allN (okf (by kernel_rfl) Tryz.func8 kf_8) (allN (okf (by kernel_rfl) Tryz.func5 kf_5) (allN (okf (by kernel_rfl) Tryz.func4 kf_4) (allN (okf (by kernel_rfl) Tryz.func3 kf_3) allL allL) allL) (allN (okf (by kernel_rfl) Tryz.func7 kf_7) (allN (okf (by kernel_rfl) Tryz.func6 kf_6) allL allL) allL)) (allN (okf (by kernel_rfl) Tryz.func11 kf_11) (allN (okf (by kernel_rfl) Tryz.func10 kf_10) (allN (okf (by kernel_rfl) Tryz.func9 kf_9) allL allL) allL) (allN (okf (by kernel_rfl) Tryz.func13 kf_13) (allN (okf (by kernel_rfl) Tryz.func12 kf_12) allL allL) allL))) (allN (okf (by kernel_rfl) Tryz.func20 kf_20) (allN (okf (by kernel_rfl) Tryz.func17 kf_17) (allN (okf (by kernel_rfl) Tryz.func16 kf_16) (allN (okf (by kernel_rfl) Tryz.func15 kf_15) allL allL) allL) (allN (okf (by kernel_rfl) Tryz.func19 kf_19) (allN (okf (by kernel_rfl) Tryz.func18 kf_18) allL allL) allL)) (allN (okf (by kernel_rfl) Tryz.func23 kf_23) (allN (okf (by kernel_rfl) Tryz.func22 kf_22) (allN (okf (by kernel_rfl) Tryz.func21 kf_21) allL allL) allL) (allN (okf (by kernel_rfl) Tryz.func25 kf_25) (allN (okf (by kernel_rfl) Tryz.func24 kf_24) allL allL) allL)))) (allN (okf (by kernel_rfl) Tryz.func38 kf_38) (allN (okf (by kernel_rfl) Tryz.func32 kf_32) (allN (okf (by kernel_rfl) Tryz.func29 kf_29) (allN (okf (by kernel_rfl) Tryz.func28 kf_28) (allN (okf (by kernel_rfl) Tryz.func27 kf_27) allL allL) allL) (allN (okf (by kernel_rfl) Tryz.func31 kf_31) (allN (okf (by kernel_rfl) Tryz.func30 kf_30) allL allL) allL)) (allN (okf (by kernel_rfl) Tryz.func35 kf_35) (allN (okf (by kernel_rfl) Tryz.func34 kf_34) (allN (okf (by kernel_rfl) Tryz.func33 kf_33) allL allL) allL) (allN (okf (by kernel_rfl) Tryz.func37 kf_37) (allN (okf (by kernel_rfl) Tryz.func36 kf_36) allL allL) allL))) (allN (okf (by kernel_rfl) Tryz.func44 kf_44) (allN (okf (by kernel_rfl) Tryz.func41 kf_41) (allN (okf (by kernel_rfl) Tryz.func40 kf_40) (allN (okf (by kernel_rfl) Tryz.func39 kf_39) allL allL) allL) (allN (okf (by kernel_rfl) Tryz.func43 kf_43) (allN (okf (by kernel_rfl) Tryz.func42 kf_42) allL allL) allL)) (allN (okf (by kernel_rfl) Tryz.func47 kf_47) (allN (okf (by kernel_rfl) Tryz.func46 kf_46) (allN (okf (by kernel_rfl) Tryz.func45 kf_45) allL allL) allL) (allN (okf (by kernel_rfl) Tryz.func48 kf_48) allL allL))))) (allN (okf (by kernel_rfl) Tryz.func74 kf_74) (allN (okf (by kernel_rfl) Tryz.func61 kf_61) (allN (okf (by kernel_rfl) Tryz.func55 kf_55) (allN (okf (by kernel_rfl) Tryz.func52 kf_52) (allN (okf (by kernel_rfl) Tryz.func51 kf_51) (allN (okf (by kernel_rfl) Tryz.func50 kf_50) allL allL) allL) (allN (okf (by kernel_rfl) Tryz.func54 kf_54) (allN (okf (by kernel_rfl) Tryz.func53 kf_53) allL allL) allL)) (allN (okf (by kernel_rfl) Tryz.func58 kf_58) (allN (okf (by kernel_rfl) Tryz.func57 kf_57) (allN (okf (by kernel_rfl) Tryz.func56 kf_56) allL allL) allL) (allN (okf (by kernel_rfl) Tryz.func60 kf_60) (allN (okf (by kernel_rfl) Tryz.func59 kf_59) allL allL) allL))) (allN (okf (by kernel_rfl) Tryz.func69 kf_69) (allN (okf (by kernel_rfl) Tryz.func64 kf_64) (allN (okf (by kernel_rfl) Tryz.func63 kf_63) (allN (okf (by kernel_rfl) Tryz.func62 kf_62) allL allL) allL) (allN (okf (by kernel_rfl) Tryz.func68 kf_68) (allN (okf (by kernel_rfl) Tryz.func65 kf_65) allL allL) allL)) (allN (okf (by kernel_rfl) Tryz.func72 kf_72) (allN (okf (by kernel_rfl) Tryz.func71 kf_71) (allN (okf (by kernel_rfl) Tryz.func70 kf_70) allL allL) allL) (allN (okf (by kernel_rfl) Tryz.func73 kf_73) allL allL)))) (allN (okf (by kernel_rfl) Tryz.func87 kf_87) (allN (okf (by kernel_rfl) Tryz.func81 kf_81) (allN (okf (by kernel_rfl) Tryz.func77 kf_77) (allN (okf (by kernel_rfl) Tryz.func76 kf_76) (allN (okf (by kernel_rfl) Tryz.func75 kf_75) allL allL) allL) (allN (okf (by kernel_rfl) Tryz.func80 kf_80) (allN (okf (by kernel_rfl) Tryz.func78 kf_78) allL allL) allL)) (allN (okf (by kernel_rfl) Tryz.func84 kf_84) (allN (okf (by kernel_rfl) Tryz.func83 kf_83) (allN (okf (by kernel_rfl) Tryz.func82 kf_82) allL allL) allL) (allN (okf (by kernel_rfl) Tryz.func86 kf_86) (allN (okf (by kernel_rfl) Tryz.func85 kf_85) allL allL) allL))) (allN (okf (by kernel_rfl) Tryz.func93 kf_93) (allN (okf (by kernel_rfl) Tryz.func90 kf_90) (allN (okf (by kernel_rfl) Tryz.func89 kf_89) (allN (okf (by kernel_rfl) Tryz.func88 kf_88) allL allL) allL) (allN (okf (by kernel_rfl) Tryz.func92 kf_92) (allN (okf (by kernel_rfl) Tryz.func91 kf_91) allL allL) allL)) (allN (okf (by kernel_rfl) Tryz.func96 kf_96) (allN (okf (by kernel_rfl) Tryz.func95 kf_95) (allN (okf (by kernel_rfl) Tryz.func94 kf_94) allL allL) allL) (allN (okf (by kernel_rfl) Tryz.func97 kf_97) allL allL)))))) (allN (okf (by kernel_rfl) Tryz.func152 kf_152) (allN (okf (by kernel_rfl) Tryz.func123 kf_123) (allN (okf (by kernel_rfl) Tryz.func110 kf_110) (allN (okf (by kernel_rfl) Tryz.func104 kf_104) (allN (okf (by kernel_rfl) Tryz.func101 kf_101) (allN (okf (by kernel_rfl) Tryz.func100 kf_100) (allN (okf (by kernel_rfl) Tryz.func99 kf_99) allL allL) allL) (allN (okf (by kernel_rfl) Tryz.func103 kf_103) (allN (okf (by kernel_rfl) Tryz.func102 kf_102) allL allL) allL)) (allN (okf (by kernel_rfl) Tryz.func107 kf_107) (allN (okf (by kernel_rfl) Tryz.func106 kf_106) (allN (okf (by kernel_rfl) Tryz.func105 kf_105) allL allL) allL) (allN (okf (by kernel_rfl) Tryz.func109 kf_109) (allN (okf (by kernel_rfl) Tryz.func108 kf_108) allL allL) allL))) (allN (okf (by kernel_rfl) Tryz.func116 kf_116) (allN (okf (by kernel_rfl) Tryz.func113 kf_113) (allN (okf (by kernel_rfl) Tryz.func112 kf_112) (allN (okf (by kernel_rfl) Tryz.func111 kf_111) allL allL) allL) (allN (okf (by kernel_rfl) Tryz.func115 kf_115) (allN (okf (by kernel_rfl) Tryz.func114 kf_114) allL allL) allL)) (allN (okf (by kernel_rfl) Tryz.func120 kf_120) (allN (okf (by kernel_rfl) Tryz.func118 kf_118) (allN (okf (by kernel_rfl) Tryz.func117 kf_117) allL allL) allL) (allN (okf (by kernel_rfl) Tryz.func122 kf_122) (allN (okf (by kernel_rfl) Tryz.func121 kf_121) allL allL) allL)))) (allN (okf (by kernel_rfl) Tryz.func138 kf_138) (allN (okf (by kernel_rfl) Tryz.func131 kf_131) (allN (okf (by kernel_rfl) Tryz.func127 kf_127) (allN (okf (by kernel_rfl) Tryz.func126 kf_126) (allN (okf (by kernel_rfl) Tryz.func124 kf_124) allL allL) allL) (allN (okf (by kernel_rfl) Tryz.func130 kf_130) (allN (okf (by kernel_rfl) Tryz.func129 kf_129) allL allL) allL)) (allN (okf (by kernel_rfl) Tryz.func135 kf_135) (allN (okf (by kernel_rfl) Tryz.func134 kf_134) (allN (okf (by kernel_rfl) Tryz.func132 kf_132) allL allL) allL) (allN (okf (by kernel_rfl) Tryz.func137 kf_137) (allN (okf (by kernel_rfl) Tryz.func136 kf_136) allL allL) allL))) (allN (okf (by kernel_rfl) Tryz.func144 kf_144) (allN (okf (by kernel_rfl) Tryz.func141 kf_141) (allN (okf (by kernel_rfl) Tryz.func140 kf_140) (allN (okf (by kernel_rfl) Tryz.func139 kf_139) allL allL) allL) (allN (okf (by kernel_rfl) Tryz.func143 kf_143) (allN (okf (by kernel_rfl) Tryz.func142 kf_142) allL allL) allL)) (allN (okf (by kernel_rfl) Tryz.func148 kf_148) (allN (okf (by kernel_rfl) Tryz.func147 kf_147) (allN (okf (by kernel_rfl) Tryz.func145 kf_145) allL allL) allL) (allN (okf (by kernel_rfl) Tryz.func150 kf_150) allL allL))))) (allN (okf (by kernel_rfl) Tryz.func192 kf_192) (allN (okf (by kernel_rfl) Tryz.func170 kf_170) (allN (okf (by kernel_rfl) Tryz.func158 kf_158) (allN (okf (by kernel_rfl) Tryz.func155 kf_155) (allN (okf (by kernel_rfl) Tryz.func154 kf_154) (allN (okf (by kernel_rfl) Tryz.func153 kf_153) allL allL) allL) (allN (okf (by kernel_rfl) Tryz.func157 kf_157) (allN (okf (by kernel_rfl) Tryz.func156 kf_156) allL allL) allL)) (allN (okf (by kernel_rfl) Tryz.func167 kf_167) (allN (okf (by kernel_rfl) Tryz.func166 kf_166) (allN (okf (by kernel_rfl) Tryz.func165 kf_165) allL allL) allL) (allN (okf (by kernel_rfl) Tryz.func169 kf_169) (allN (okf (by kernel_rfl) Tryz.func168 kf_168) allL allL) allL))) (allN (okf (by kernel_rfl) Tryz.func176 kf_176) (allN (okf (by kernel_rfl) Tryz.func173 kf_173) (allN (okf (by kernel_rfl) Tryz.func172 kf_172) (allN (okf (by kernel_rfl) Tryz.func171 kf_171) allL allL) allL) (allN (okf (by kernel_rfl) Tryz.func175 kf_175) (allN (okf (by kernel_rfl) Tryz.func174 kf_174) allL allL) allL)) (allN (okf (by kernel_rfl) Tryz.func183 kf_183) (allN (okf (by kernel_rfl) Tryz.func182 kf_182) (allN (okf (by kernel_rfl) Tryz.func180 kf_180) allL allL) allL) (allN (okf (by kernel_rfl) Tryz.func184 kf_184) allL allL)))) (allN (okf (by kernel_rfl) Tryz.func222 kf_222) (allN (okf (by kernel_rfl) Tryz.func208 kf_208) (allN (okf (by kernel_rfl) Tryz.func205 kf_205) (allN (okf (by kernel_rfl) Tryz.func194 kf_194) (allN (okf (by kernel_rfl) Tryz.func193 kf_193) allL allL) allL) (allN (okf (by kernel_rfl) Tryz.func207 kf_207) (allN (okf (by kernel_rfl) Tryz.func206 kf_206) allL allL) allL)) (allN (okf (by kernel_rfl) Tryz.func219 kf_219) (allN (okf (by kernel_rfl) Tryz.func210 kf_210) (allN (okf (by kernel_rfl) Tryz.func209 kf_209) allL allL) allL) (allN (okf (by kernel_rfl) Tryz.func221 kf_221) (allN (okf (by kernel_rfl) Tryz.func220 kf_220) allL allL) allL))) (allN (okf (by kernel_rfl) Tryz.func236 kf_236) (allN (okf (by kernel_rfl) Tryz.func233 kf_233) (allN (okf (by kernel_rfl) Tryz.func224 kf_224) (allN (okf (by kernel_rfl) Tryz.func223 kf_223) allL allL) allL) (allN (okf (by kernel_rfl) Tryz.func235 kf_235) (allN (okf (by kernel_rfl) Tryz.func234 kf_234) allL allL) allL)) (allN (okf (by kernel_rfl) Tryz.func245 kf_245) (allN (okf (by kernel_rfl) Tryz.func244 kf_244) (allN (okf (by kernel_rfl) Tryz.func243 kf_243) allL allL) allL) (allN (okf (by kernel_rfl) Tryz.func248 kf_248) allL allL)))))))
theorem xk_none {f : Nat} (h : Xk f = none) : X f = none := by
 unfold Xk at h
 unfold X
 simp only [cond_eq_ite, nbeq] at h
 repeat' split at h
 all_goals first | (simp_all; done) | cases h
theorem xk_some {f : Nat} {g : List V → Option V} (h : Xk f = some g) : ∃ g', X f = some g' ∧ ∀ args v, g args = some v → g' (V.tL args) = some v.t := by
 unfold Xk at h
 unfold X
 simp only [cond_eq_ite, nbeq] at h
 split at h
 ·rename_i e
  simp only [Option.some.injEq] at h
  subst h
  simp only [e]
  exact ⟨_, rfl, fun args v h => kIX_t h⟩
 rename_i e
 simp only [e, if_false]
 split at h
 ·rename_i e
  simp only [Option.some.injEq] at h
  subst h
  simp only [e]
  exact ⟨_, rfl, fun args v h => kF2_t h⟩
 rename_i e
 simp only [e, if_false]
 split at h
 ·rename_i e
  simp only [Option.some.injEq] at h
  subst h
  simp only [e]
  exact ⟨_, rfl, fun args v h => kTB_t h⟩
 rename_i e
 simp only [e, if_false]
 split at h
 ·rename_i e
  simp only [Option.some.injEq] at h
  subst h
  simp only [e]
  exact ⟨_, rfl, fun args v h => kTB_t h⟩
 rename_i e
 simp only [e, if_false]
 cases h
theorem kok : KEOk K0 E where
 om := rfl
 X := fun f g h => xk_some h
 F := fun f F hx hF => ⟨(allT_get fok hF).1, xk_none hx, (allT_get fok hF).2⟩
 M := fun f args v h => by cases h
/-- What a run in the kernel says of the call itself. -/
theorem calls_of {f : Nat} {v : Value} {S : Store} (h : callF E 0 f [] emp = some (.sc v, S)) (w : World) (hm : ∃ m, w.cell? ⟨1, 0, none⟩ = some (.int .i64 m)) (ht : Lib.TabIs Tryz.prog w "internal/strconv.uint64pow10" .u64 Lib.pow10Tab) : Calls Tryz.prog f #[] w fun e w' => e = .returned v ∧ Below w.heap.size w w' := by
 have hs := (callF_sound (γ := gam) xok ngok 0 f [] emp _ _ h).2
 have hlt : 1 < w.heap.size := by
  obtain ⟨m, hm⟩ := hm
  rcases Nat.lt_or_ge 1 w.heap.size with h | h
  ·exact h
  ·simp [World.cell?, Array.getElem?_eq_none h] at hm
 have := hs ⟨emp, fun _ => False, fun _ => 0, fun b => b < w.heap.size, w⟩ [] rfl
  ⟨⟨fun l bt cs hD => hD.elim, fun l ro g sz e xs hD => hD.elim, fun l hD => hD.elim, fun l l' hD => hD.elim, fun b hb => hb, fun l hD => hD.elim⟩, fun l hD => hD.elim, fun l hl => absurd rfl hl⟩
  ⟨⟨hm, ht⟩, fun b hb => by
   rcases hb with rfl | rfl
   ·exact hlt
   ·exact tab_lt ht⟩ .nil
 refine Calls.mono this fun e w' he => ?_
 cases e with
 | panicked ch => exact he.elim
 | outgrown => exact he.elim
 | returned u =>
  obtain ⟨c', rfl, hl⟩ := he
  refine ⟨by rw [rep_sc hl.rep], ⟨hl.fr.os, hl.fr.tape, hl.fr.output, hl.fr.size, fun k hk => hl.fr.blk k hk fun l hD => hD.elim⟩⟩
end Go.TM.K9
