/- The law ExprParentheses: for every expression and texts that hold at most 1048576 values and letters it returns true, and the arguments read as they did. -/
import Derived.Test.YtgmclgajlofljaaGreatDoorVPAX
import Derived.Test.YtgmclgajlofljaaGreatDoorVXO
import Derived.Test.YtgmclgajlofljaaGreatDoorTmIn
import Derived.Test.YtgmclgajlofljaaGreatDoorTmHand
import Derived.Test.YtgmclgajlofljaaGreatDoorCards
import Derived.Test.YtgmclgajlofljaaGreatDoorTie
import Derived.WalkKit
import Derived.ProofKit
import Derived.OpenShut
import Derived.Carry
import Derived.Deep.DeepHandedRow
import Derived.SevenTiedAt
set_option linter.all false
namespace Go.Proofs.YtgmclgajlofljaaGreatDoor
open Go Go.TM Go.TM.R8
open Go.ChangeShapes Go.WideShapes Go.ChangeAt Go.RowKit
set_option maxRecDepth 1000000
theorem toByte {n : Nat} {H : Type} {d : DataW H} {xs : List T} (h : dT Tryz.prog n 5 d = some xs) : ∃ m : Nat, xs = [.sc (.int .u8 (m : Int))] := by
 obtain ⟨m, hx, h1, h2⟩ := dT_int Tryz.underlying5 h
 have : (0 : Int) ≤ m := h1
 exact ⟨m.toNat, by rw [hx, Int.toNat_of_nonneg this]⟩
theorem bulk_pos {H : Type} (d : DataW H) : 1 ≤ Rows.uptoBulk d := by
 cases d with
 | lit l => cases l <;> simp [Rows.uptoBulk]
 | nil => simp [Rows.uptoBulk]
 | ptr d => simp [Rows.uptoBulk]
 | slice elems spare => simp [Rows.uptoBulk]
 | agg parts => simp [Rows.uptoBulk]
 | iface t d => simp [Rows.uptoBulk]
 | map entries => simp [Rows.uptoBulk]
 | held h => simp [Rows.uptoBulk]
theorem cells5 : Tryz.prog.cellsOf 67 = 1 := by kernel_rfl
theorem cells28 : Tryz.prog.cellsOf 28 = 8 := by kernel_rfl
theorem rec67 : isRec Tryz.prog 67 = false := by kernel_rfl
theorem rec28 : isRec Tryz.prog 28 = true := by kernel_rfl
theorem und67 : Tryz.prog.underlying 67 = some (.int .u8) := by kernel_rfl
theorem toBits {H : Type} {m : Nat} : ∀ (elems : List (DataW H)) (es : List T), elems.mapM (fun x => (dT Tryz.prog m 67 x).map (wrapT Tryz.prog 67)) = some es → ∃ l : List Nat, es = ul l
 | [], es, h => by rw [mapM_nil'] at h; simp only [Option.some.injEq] at h; exact ⟨[], h.symm⟩
 | x :: xs, es, h => by
  obtain ⟨y, ys, h1, h2, rfl⟩ := mapM_cons'.1 h
  rw [Option.map_eq_some_iff] at h1
  obtain ⟨cs, h3, rfl⟩ := h1
  obtain ⟨k, rfl, k1, _⟩ := dT_int und67 h3
  have k1 : (0 : Int) ≤ k := k1
  obtain ⟨l, rfl⟩ := toBits xs ys h2
  refine ⟨k.toNat :: l, ?_⟩
  rw [wrapT_f rec67]
  simp [ul, Int.toNat_of_nonneg k1]
theorem toExL {H : Type} {m : Nat} (ih : ∀ (d : DataW H) xs, dT Tryz.prog m 28 d = some xs → ∃ x : Ex', xs = x.t.cells ∧ 2 * (size x).1 ≤ Rows.uptoBulk d) :
  ∀ (elems : List (DataW H)) (es : List T), elems.mapM (fun x => (dT Tryz.prog m 28 x).map (wrapT Tryz.prog 28)) = some es → ∃ l : List Ex', es = ml Ex'.t l ∧ 2 * (sizeL l).1 ≤ Rows.uptoBulkAll elems
 | [], es, h => by rw [mapM_nil'] at h; simp only [Option.some.injEq] at h; exact ⟨[], h.symm, by simp [sizeL]⟩
 | x :: xs, es, h => by
  obtain ⟨y, ys, h1, h2, rfl⟩ := mapM_cons'.1 h
  rw [Option.map_eq_some_iff] at h1
  obtain ⟨cs, h3, rfl⟩ := h1
  obtain ⟨e, rfl, hb⟩ := ih x cs h3
  obtain ⟨l, rfl, hb2⟩ := toExL ih xs ys h2
  refine ⟨e :: l, ?_, ?_⟩
  ·rw [wrapT_t rec28, Ex'.agg_cells]; rfl
  ·simp only [sizeL, Rows.uptoBulkAll]; omega
theorem toEx {H : Type} : ∀ (n : Nat) (d : DataW H) (xs : List T), dT Tryz.prog n 28 d = some xs → ∃ x : Ex', xs = x.t.cells ∧ 2 * (size x).1 ≤ Rows.uptoBulk d := by
 intro n
 induction n with
 | zero => intro d xs h; cases h
 | succ n ih =>
  intro d xs h
  obtain ⟨m, parts, ls, hn, rfl, hl, h1, rfl⟩ := dT_struct Tryz.underlying28 h
  obtain rfl : m = n := by omega
  match parts, hl with
  | [p1, p2, p3, p4, p5, p6, p7], _ =>
   obtain ⟨y1, r1, q1, g1, e1⟩ := mapM_cons'.1 h1
   subst e1
   obtain ⟨y2, r2, q2, g2, e2⟩ := mapM_cons'.1 g1
   subst e2
   obtain ⟨y3, r3, q3, g3, e3⟩ := mapM_cons'.1 g2
   subst e3
   obtain ⟨y4, r4, q4, g4, e4⟩ := mapM_cons'.1 g3
   subst e4
   obtain ⟨y5, r5, q5, g5, e5⟩ := mapM_cons'.1 g4
   subst e5
   obtain ⟨y6, r6, q6, g6, e6⟩ := mapM_cons'.1 g5
   subst e6
   obtain ⟨y7, r7, q7, g7, e7⟩ := mapM_cons'.1 g6
   subst e7
   have g7 : some ([] : List (List T)) = some r7 := g7
   simp only [Option.some.injEq] at g7
   subst g7
   obtain ⟨op, rfl⟩ := toByte q1
   obtain ⟨nm, rfl, _⟩ := dT_str Tryz.underlying9 q2
   obtain ⟨m2, parts2, ls2, hn2, rfl, hl2, h2, rfl⟩ := dT_struct Tryz.underlying25 q3
   obtain ⟨m4, es, hn4, rfl, ha⟩ := dT_slice Tryz.underlying26 q4
   obtain ⟨sig, rfl, _, _⟩ := dT_int Tryz.underlying3 q5
   obtain ⟨wd, rfl, _, _⟩ := dT_int Tryz.underlying3 q6
   obtain ⟨sg, rfl⟩ := dT_bool Tryz.underlying4 q7
   match parts2, hl2 with
   | [b1, b2], _ =>
    obtain ⟨z1, s1, w1, k1, f1⟩ := mapM_cons'.1 h2
    subst f1
    obtain ⟨z2, s2, w2, k2, f2⟩ := mapM_cons'.1 k1
    subst f2
    have k2 : some ([] : List (List T)) = some s2 := k2
    simp only [Option.some.injEq] at k2
    subst k2
    obtain ⟨m3, bs, hn3, rfl, hb⟩ := dT_slice Tryz.underlying23 w1
    obtain ⟨vs, rfl⟩ := dT_bool Tryz.underlying4 w2
    have hbits : ∃ l : List Nat, bs = ul l := by
     rcases hb with ⟨_, rfl⟩ | ⟨elems, rest, _, hb⟩
     ·exact ⟨[], rfl⟩
     ·exact toBits elems bs hb
    obtain ⟨l, rfl⟩ := hbits
    have hargs : ∃ xa : List Ex', es = ml Ex'.t xa ∧ 2 * (sizeL xa).1 ≤ Rows.uptoBulk p4 := by
     rcases ha with ⟨_, rfl⟩ | ⟨elems, rest, rfl, ha⟩
     ·exact ⟨[], rfl, by simp [sizeL]⟩
     ·obtain ⟨xa, h1, h2⟩ := toExL (m := m4) (fun d xs h => by
       have := ih d xs
       have hm : m4 ≤ m := by omega
       exact this (dT_mono hm h)) elems es ha
      exact ⟨xa, h1, by simp only [Rows.uptoBulk]; omega⟩
    obtain ⟨xa, rfl, hsz⟩ := hargs
    refine ⟨.mk op nm false l vs false xa sig wd sg, ?_, ?_⟩
    ·rw [Ex'.t_mk, gs_false, gs_false, cells5, cells28]; rfl
    ·simp only [size, Rows.uptoBulk, Rows.uptoBulkAll]
     have := bulk_pos p1
     have := bulk_pos p2
     omega
theorem walk (x : Ex') (hx : (size x).1 < 900000) (s1 : List UInt8) (s2 : List UInt8) (W : World) (hm : ∃ m, W.cell? ⟨0, 0, none⟩ = some (.int .i64 m)) (ht : Lib.TabIs Tryz.prog W "internal/strconv.uint64pow10" .u64 Lib.pow10Tab) {vs : List Value}
  (hr : RepL ⟨emp, fun _ => False, fun _ => 0, fun b => b < W.heap.size, W⟩ [x.t, .sc (str s1), .sc (str s2)] vs) : Calls Tryz.prog 8 vs.toArray W fun e w' => e = .returned (.bool true) ∧ Below W.heap.size W w' := by
 have hlt : 0 < W.heap.size := by
  obtain ⟨m, hm⟩ := hm
  rcases Nat.lt_or_ge 0 W.heap.size with h | h
  ·exact h
  ·simp [World.cell?, Array.getElem?_eq_none h] at hm
 refine calls_in (γ := A8.gam) (E := R8.E) rfl xok A8.ngok (c_pa x s1 s2 (by omega)) W ⟨⟨hm, ht⟩, fun b hb => ?_⟩ hr
 rcases hb with rfl | rfl
 ·exact hlt
 ·exact A8.tab_lt ht
theorem okTs28 : okTs Tryz.prog [28, 5, 9, 25, 26, 3, 4, 23, 67] = true := by kernel_rfl
theorem repOf {c : Ctx} {x : Ex'} {cs : List Value} (h : RepL c x.t.cells cs) : Rep c x.t (.agg cs.toArray) := by
 rw [← Ex'.agg_cells]; exact .agg _ _ h
theorem argIn {H : Type} {enc : TypeId × Value → H} {W : World} {v : Value} {d : DataW H} {p : List MemPlace} (hv : ∃ cs, v = .agg cs) (h : DataW.Trod enc Tryz.prog W 0 (fun _ => true) true 28 v d p) :
  ∃ x : Ex', Rep ⟨emp, fun _ => False, fun _ => 0, fun b => b < W.heap.size, W⟩ x.t v ∧ 2 * (size x).1 ≤ Rows.uptoBulk d := by
 obtain ⟨n, h⟩ := h
 obtain ⟨xs, h1, h2, h3, h4⟩ := enter (c := ⟨emp, fun _ => False, fun _ => 0, fun b => b < W.heap.size, W⟩) okTs28 rfl (fun b hb => hb) n 28 _ d p (by simp) h
 obtain ⟨x, rfl, hb⟩ := toEx n d xs h1
 obtain ⟨cs, rfl⟩ := hv
 exact ⟨x, by have := repOf h2; simpa [Value.cells] using this, hb⟩
theorem laidOut : laidOutB Tryz.prog = true := by kernel_rfl
theorem aggOf {base : Nat} {W : World} {v : Value} (h : Value.okWide Tryz.prog W .any base 28 v) : ∃ cs, v = .agg cs := by
 unfold Value.okWide at h
 rw [Tryz.underlying28] at h
 obtain ⟨cs, h, _⟩ := h
 exact ⟨cs, h⟩
theorem strOf {W : World} {base : Nat} {v : Value} (h0 : Value.okWide Tryz.prog W .any base 9 v) : ∃ s : List UInt8, v = str s := by
 unfold Value.okWide at h0
 rw [Tryz.underlying9] at h0
 replace h0 : Cell.okWide Tryz.prog W .any base 9 v := h0
 unfold Cell.okWide at h0
 rw [Tryz.underlying9] at h0
 cases v with
 | string b => exact ⟨b.data.toList, rfl⟩
 | _ => simp only [Cell.ok, Tryz.underlying9] at h0
theorem tabLaid : (Rows.exprParenthesesUptoRow.laid.filter fun x => x.1 == "internal/strconv.uint64pow10") = [("internal/strconv.uint64pow10", Lib.tabData .u64 Lib.pow10Tab)] := by kernel_rfl
theorem tabOf {W : World} (h : laidMetH Tryz.prog Rows.exprParenthesesUptoRow.laid W) : Lib.TabIs Tryz.prog W "internal/strconv.uint64pow10" .u64 Lib.pow10Tab := by
 have h1 := h.filter (fun x => x.1 == "internal/strconv.uint64pow10")
 rw [tabLaid, Go.MakeChecks.laidMetH_plain _ _ _ (by kernel_rfl)] at h1
 exact Lib.tabIs_of_head A8.gT (by kernel_rfl) Tryz.underlying202 Tryz.underlying115 (by kernel_rfl) (by kernel_rfl) h1
theorem contract (H : Type) (enc : TypeId × Value → H) (W : World) (base : Nat) (args : Array Value) (ds gs : List (DataW H)) (before : List MemPlace)
  (hval : ∀ (j : Nat) t v, Tryz.f8.params[j]? = some t → args[j]? = some v → Value.okWide Tryz.prog W .any base t v)
  (hW : DataW.Whole enc Tryz.prog Tryz.f8.params.toList Rows.exprParenthesesSpec.vars false W args.toList ds gs before) (hk : Rows.uptoSmall H (ds ++ gs) = true) (hX : laidMetH Tryz.prog Rows.exprParenthesesUptoRow.laid W) (hsh : W.ShapedOpen Tryz.prog) :
  Calls Tryz.prog 8 args W fun e W' => ∃ v, e = .returned v ∧ Rows.exprParenthesesSpec.post enc Tryz.prog Tryz.f8 false true false false W args v W' := by
 have ht := tabOf hX
 have hW' := hW
 obtain ⟨p, q, hA0, hV, rfl, hfz, hnd⟩ := hW
 have hA : DataW.TrodAll enc Tryz.prog W 0 (fun _ => true) true Tryz.f8.params.toList args.toList ds p := hA0
 rw [Tryz.params8] at hA hval
 obtain ⟨v0, v1, v2, d0, d1, d2, p0, p1, p2, rfl, rfl, rfl, h0, h1, h2⟩ := trodAll_three hA
 obtain ⟨rfl, rfl⟩ := trodVars_none hV
 have hk := of_decide_eq_true hk
 simp only [List.append_nil, Rows.uptoBulkAll] at hk
 obtain ⟨x, rx, bx⟩ := argIn (aggOf (hval 0 28 v0 rfl rfl)) h0
 obtain ⟨s1, rfl⟩ := strOf (hval 1 9 v1 rfl rfl)
 obtain ⟨s2, rfl⟩ := strOf (hval 2 9 v2 rfl rfl)
 obtain ⟨n0, t0⟩ := h0
 obtain ⟨n1, t1⟩ := h1
 obtain ⟨n2, t2⟩ := h2
 have lt0 : ∀ z ∈ p0, z.block < W.heap.size := DataW.trod_lt n0 _ _ _ t0
 have lt1 : ∀ z ∈ p1, z.block < W.heap.size := DataW.trod_lt n1 _ _ _ t1
 have lt2 : ∀ z ∈ p2, z.block < W.heap.size := DataW.trod_lt n2 _ _ _ t2
 refine (walk x (by omega) s1 s2 W (Tryz.laysM143.s1_3 W hsh) ht (vs := [v0, str s1, str s2]) (.cons _ _ _ _ rx (.cons _ _ _ _ (.sc _ rfl) (.cons _ _ _ _ (.sc _ rfl) .nil)))).mono fun e W' ⟨he, bel⟩ => ?_
 subst he
 refine ⟨_, rfl, _, _, _, [], _, [], hW', trodAll_mk1 (shut_bool Tryz.underlying4 _), trodAll_mk3 (Below.trod laidOut (by kernel_rfl) (of_decide_eq_true (by kernel_rfl)) ⟨n0, t0⟩ bel lt0) (Below.trod laidOut (by kernel_rfl) (of_decide_eq_true (by kernel_rfl)) ⟨n1, t1⟩ bel lt1) (Below.trod laidOut (by kernel_rfl) (of_decide_eq_true (by kernel_rfl)) ⟨n2, t2⟩ bel lt2), rfl, bel.frame _, fun h => by cases h⟩
theorem witness_sh {H : Type} {enc : TypeId × Value → H} {C : Checked} {os : Os} {f : FuncId} {fn : Func} {s : OpenSpec} {conds : List PathCond} {apart : Bool} {laid : List (String × DataW Unit)} (modest : Bool) (w0 : World) (args : Array Value) (hos : w0.os = os)
  (hsh : (w0.forCall (fun _ _ => 0) ⟨#[], args, []⟩).Shaped C.prog) (hok : Input.okWideB C.prog (w0.forCall (fun _ _ => 0) ⟨#[], args, []⟩) f ⟨#[], args, []⟩ = true)
  (hrow : s.preRow enc C.prog fn conds apart laid (w0.forCall (fun _ _ => 0) ⟨#[], args, []⟩).memory args) :
  ∃ (w : World) (tape : Tape) (i : Input), w.os = os ∧ (w.forCall tape i).Shaped C.prog ∧ i.vars = [] ∧ Input.okWide C.prog (w.forCall tape i) .any w.heap.size f i ∧
   s.preRow enc C.prog fn conds apart laid (w.forCall tape i).memory i.args ∧ ({ modest := modest } : Assume).holds C.prog (lone (Frame.enter C.prog f i.args .normal) [] (w.forCall tape i)) :=
 ⟨w0, fun _ _ => 0, ⟨#[], args, []⟩, hos, hsh, (Input.okWide_of_okWideB (base := 0) hok).1, (Input.okWide_of_okWideB hok).2, hrow, by
  simp only [Assume.holds]
  exact ⟨by simp, by simp, fun _ => Modest.zero, by simp, by simp⟩⟩
def e0 : Value := .agg #[.int .u8 0, .string ⟨#[]⟩, .slice none 0 0, .bool false, .slice none 0 0, .int .i64 0, .int .i64 0, .bool false]
theorem own : ownKnob Tryz.prog.godebug = none := by kernel_rfl
theorem met (os : Os) : laidMetH Tryz.prog Rows.exprParenthesesUptoRow.laid ((World.doorLaid Tryz.prog 4000 os).forCall (fun _ _ => 0) ⟨#[], #[e0, str [], str []], []⟩).memory :=
 laidMetH_of_parts3 (fuel := 8) (laidMet_of_run' 70 (by kernel_rfl) (by kernel_rfl)) (by kernel_rfl) (by kernel_rfl)
def d0 (H : Type) : DataW H := .agg [.lit (.int .u8 0), .lit (.string []), .agg [.nil, .lit (.bool false)], .nil, .lit (.int .i64 0), .lit (.int .i64 0), .lit (.bool false)]
theorem reads (os : Os) {H : Type} (enc : TypeId × Value → H) : ∃ places, DataW.whole enc Tryz.prog ((World.doorLaid Tryz.prog 4000 os).forCall (fun _ _ => 0) ⟨#[], #[e0, str [], str []], []⟩).memory Tryz.f8.params.toList Rows.exprParenthesesSpec.vars false #[e0, str [], str []].toList 8 = some ([d0 H, .lit (.string []), .lit (.string [])], [], places) :=
 ⟨[], by kernel_rfl⟩
theorem lifted (os : Os) (started : os.Started) (H : Type) (enc : TypeId × Value → H) (F : Stop.Interp) :
  ReturnsInHanded {} Tryz.checked os 8 .any ((Rows.OpenSpec.upto Rows.exprParenthesesSpec).preRow enc Tryz.prog Tryz.f8 Rows.exprParenthesesUptoRow.domain false Rows.exprParenthesesUptoRow.laid) (((Rows.OpenSpec.upto Rows.exprParenthesesSpec).at F).post enc Tryz.prog Tryz.f8 false true false false) := by
 obtain ⟨places, hx⟩ := reads os enc
 refine returnsInHanded_of_row (C := Tryz.checked) (s := Rows.OpenSpec.upto Rows.exprParenthesesSpec) own started (by kernel_rfl) Tryz.func8
  (witness_sh (enc := enc) (C := Tryz.checked) false (World.doorLaid Tryz.prog 4000 os) #[e0, str [], str []] rfl (World.shaped_of_RefB (by kernel_rfl) (by kernel_rfl)) (by kernel_rfl)
   (OpenSpec.preRow_of_cond 8 hx (by kernel_rfl) (fun k hk => by cases hk; kernel_rfl) (by kernel_rfl) (met os))) ?_
 intro W base args ds gs before hval hW _ hcond _ hX hsh _
 exact contract H enc W base args ds gs before hval hW (hcond _ rfl) hX hsh
theorem exprParenthesesUpto_row : Rows.ExprParenthesesUptoSaid :=
 OpenClaim.holds_of_cond 8 Tryz.f8 rfl rfl rfl rfl rfl rfl rfl ⟨rfl, rfl, rfl, rfl, rfl⟩ rfl rfl rfl rfl rfl (by kernel_rfl) Tryz.func8 (by kernel_rfl)
  (of_decide_eq_true (by kernel_rfl)) (by unfold Func.isWrapper; first | (rw [if_pos (by decide +kernel)]; kernel_rfl) | (rw [if_neg (by decide +kernel)]; exact ⟨rfl, rfl⟩))
  (fun os started H enc _ F => by rw [OpenClaim.pre_eq_preRow]; exact lifted os started H enc F)
theorem exprParenthesesUpto_holds : Rows.ExprParenthesesUptoCardSaid :=
 Claim7.holds_tied_plain_at .later [] _ _ _ _ exprParenthesesUpto_row (fun _ h => by cases h) (by kernel_rfl) (fun _ h => by cases h) exprParenthesesUpto_row_tie rfl ⟨rfl, rfl⟩ (by kernel_rfl) rfl
  (fun f fn hf hfn => by
   obtain rfl : f = 8 := Option.some.inj ((show Tryz.prog.funcNamed "netlab/netlablaw08.ExprParentheses" = some 8 by kernel_rfl).symm.trans hf) |>.symm
   obtain rfl : fn = Tryz.f8 := (Option.some.inj (Tryz.func8.symm.trans hfn)).symm
   refine ⟨by kernel_rfl, fun j t ht => ?_⟩
   rw [Tryz.params8] at ht
   have : t = 28 ∨ t = 9 := by
    have := Array.mem_of_getElem? ht
    simpa using this
   rcases this with rfl | rfl
   ·exact (show Tryz.prog.wantsStandIn 28 = false by kernel_rfl)
   ·exact (show Tryz.prog.wantsStandIn 9 = false by kernel_rfl))
  (by kernel_rfl)
#print axioms exprParenthesesUpto_holds
end Go.Proofs.YtgmclgajlofljaaGreatDoor
