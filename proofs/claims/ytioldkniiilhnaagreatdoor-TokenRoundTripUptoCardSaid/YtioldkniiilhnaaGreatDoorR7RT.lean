/- The law TokenRoundTrip: for every list of tokens and every text of bulk at most 1048576 it returns true, and the arguments read as they did. -/
import Derived.Test.YtioldkniiilhnaaGreatDoorR7RB
import Derived.Test.YtioldkniiilhnaaGreatDoorR7XO
import Derived.Test.YtioldkniiilhnaaGreatDoorTmIn
import Derived.Test.YtioldkniiilhnaaGreatDoorTmHand
import Derived.Test.YtioldkniiilhnaaGreatDoorCards
import Derived.Test.YtioldkniiilhnaaGreatDoorTie
import Derived.WalkKit
import Derived.ProofKit
import Derived.OpenShut
import Derived.Carry
import Derived.Deep.DeepHandedRow
import Derived.SevenTiedAt
set_option linter.all false
namespace Go.Proofs.YtioldkniiilhnaaGreatDoor
open Go Go.TM Go.TM.R7
open Go.ChangeShapes Go.WideShapes Go.ChangeAt Go.RowKit
set_option maxRecDepth 1000000
theorem toByte {n : Nat} {H : Type} {d : DataW H} {xs : List T} (h : dT Tryz.prog n 5 d = some xs) : ∃ m : Nat, xs = [.sc (.int .u8 (m : Int))] := by
 obtain ⟨m, hx, h1, h2⟩ := dT_int Tryz.underlying5 h
 have : (0 : Int) ≤ m := h1
 exact ⟨m.toNat, by rw [hx, Int.toNat_of_nonneg this]⟩
theorem bulk_pos {H : Type} (d : DataW H) : 1 ≤ Rows.uptoBulk d := by
 cases d with
 | lit l => cases l <;> simp [Rows.uptoBulk]
 | nil => simp [Rows.uptoBulk]
 | ptr d => simp [Rows.uptoBulk]
 | slice elems spare => simp [Rows.uptoBulk]
 | agg parts => simp [Rows.uptoBulk]
 | iface t d => simp [Rows.uptoBulk]
 | map entries => simp [Rows.uptoBulk]
 | held h => simp [Rows.uptoBulk]
theorem cells73 : Tryz.prog.cellsOf 73 = 1 := by kernel_rfl
theorem cells61 : Tryz.prog.cellsOf 61 = 4 := by kernel_rfl
theorem rec73 : isRec Tryz.prog 73 = false := by kernel_rfl
theorem rec61 : isRec Tryz.prog 61 = true := by kernel_rfl
theorem und73 : Tryz.prog.underlying 73 = some (.int .u8) := by kernel_rfl
theorem toBits {H : Type} {m : Nat} : ∀ (elems : List (DataW H)) (es : List T), elems.mapM (fun x => (dT Tryz.prog m 73 x).map (wrapT Tryz.prog 73)) = some es → ∃ l : List Nat, es = ul l
 | [], es, h => by rw [mapM_nil'] at h; simp only [Option.some.injEq] at h; exact ⟨[], h.symm⟩
 | x :: xs, es, h => by
  obtain ⟨y, ys, h1, h2, rfl⟩ := mapM_cons'.1 h
  rw [Option.map_eq_some_iff] at h1
  obtain ⟨cs, h3, rfl⟩ := h1
  obtain ⟨k, rfl, k1, _⟩ := dT_int und73 h3
  have k1 : (0 : Int) ≤ k := k1
  obtain ⟨l, rfl⟩ := toBits xs ys h2
  refine ⟨k.toNat :: l, ?_⟩
  rw [wrapT_f rec73]
  simp [ul, Int.toNat_of_nonneg k1]
theorem toTk {H : Type} (n : Nat) (d : DataW H) (xs : List T) (h : dT Tryz.prog n 61 d = some xs) : ∃ t : Tk, xs = t.cs := by
 cases n with
 | zero => cases h
 | succ n =>
  obtain ⟨m, parts, ls, hn, rfl, hl, h1, rfl⟩ := dT_struct Tryz.underlying61 h
  match parts, hl with
  | [p1, p2, p3], _ =>
   obtain ⟨y1, r1, q1, g1, e1⟩ := mapM_cons'.1 h1
   subst e1
   obtain ⟨y2, r2, q2, g2, e2⟩ := mapM_cons'.1 g1
   subst e2
   obtain ⟨y3, r3, q3, g3, e3⟩ := mapM_cons'.1 g2
   subst e3
   have g3 : some ([] : List (List T)) = some r3 := g3
   simp only [Option.some.injEq] at g3
   subst g3
   obtain ⟨op, rfl⟩ := toByte q1
   obtain ⟨nm, rfl, _⟩ := dT_str Tryz.underlying9 q2
   obtain ⟨m2, parts2, ls2, hn2, rfl, hl2, h2, rfl⟩ := dT_struct Tryz.underlying26 q3
   match parts2, hl2 with
   | [b1, b2], _ =>
    obtain ⟨z1, s1, w1, k1, f1⟩ := mapM_cons'.1 h2
    subst f1
    obtain ⟨z2, s2, w2, k2, f2⟩ := mapM_cons'.1 k1
    subst f2
    have k2 : some ([] : List (List T)) = some s2 := k2
    simp only [Option.some.injEq] at k2
    subst k2
    obtain ⟨m3, bs, hn3, rfl, hb⟩ := dT_slice Tryz.underlying24 w1
    obtain ⟨vs, rfl⟩ := dT_bool Tryz.underlying4 w2
    have hbits : ∃ l : List Nat, bs = ul l := by
     rcases hb with ⟨_, rfl⟩ | ⟨elems, rest, _, hb⟩
     ·exact ⟨[], rfl⟩
     ·exact toBits elems bs hb
    obtain ⟨l, rfl⟩ := hbits
    refine ⟨⟨op, nm, false, l, vs⟩, ?_⟩
    simp only [Tk.cs]
    rw [gs_false, cells73]; rfl
theorem toTks {H : Type} {m : Nat} : ∀ (elems : List (DataW H)) (es : List T), elems.mapM (fun x => (dT Tryz.prog m 61 x).map (wrapT Tryz.prog 61)) = some es → ∃ l : List Tk, es = ml Tk.t l ∧ l.length ≤ Rows.uptoBulkAll elems
 | [], es, h => by rw [mapM_nil'] at h; simp only [Option.some.injEq] at h; exact ⟨[], h.symm, by simp⟩
 | x :: xs, es, h => by
  obtain ⟨y, ys, h1, h2, rfl⟩ := mapM_cons'.1 h
  rw [Option.map_eq_some_iff] at h1
  obtain ⟨cs, h3, rfl⟩ := h1
  obtain ⟨e, rfl⟩ := toTk m x cs h3
  obtain ⟨l, rfl, hb2⟩ := toTks xs ys h2
  have := bulk_pos x
  refine ⟨e :: l, ?_, ?_⟩
  ·rw [wrapT_t rec61]; rfl
  ·simp only [Rows.uptoBulkAll, List.length_cons]; omega
theorem walk (us : List Tk) (w : List UInt8) (hn : us.length < 2 ^ 62) (W : World) (hm : ∃ m, W.cell? ⟨0, 0, none⟩ = some (.int .i64 m)) (ht : Lib.TabIs Tryz.prog W "internal/strconv.uint64pow10" .u64 Lib.pow10Tab) {vs : List Value}
  (hr : RepL ⟨emp, fun _ => False, fun _ => 0, fun b => b < W.heap.size, W⟩ [.lst 4 (ml Tk.t us), .sc (str w)] vs) : Calls Tryz.prog 9 vs.toArray W fun e w' => e = .returned (.bool true) ∧ Below W.heap.size W w' := by
 have hlt : 0 < W.heap.size := by
  obtain ⟨m, hm⟩ := hm
  rcases Nat.lt_or_ge 0 W.heap.size with h | h
  ·exact h
  ·simp [World.cell?, Array.getElem?_eq_none h] at hm
 refine calls_in (γ := A7.gam) (E := R7.E) rfl xok A7.ngok (by have := c_rt false us w hn; rwa [gs_false] at this) W ⟨⟨hm, ht⟩, fun b hb => ?_⟩ hr
 rcases hb with rfl | rfl
 ·exact hlt
 ·exact A7.tab_lt ht
theorem okTs53 : okTs Tryz.prog [53, 61, 5, 9, 26, 24, 4, 73] = true := by kernel_rfl
theorem argIn {H : Type} {enc : TypeId × Value → H} {W : World} {v : Value} {d : DataW H} {p : List MemPlace} (hv : v.cells.toList = [v]) (h : DataW.Trod enc Tryz.prog W 0 (fun _ => true) true 53 v d p) :
  ∃ us : List Tk, RepL ⟨emp, fun _ => False, fun _ => 0, fun b => b < W.heap.size, W⟩ [.lst 4 (ml Tk.t us)] [v] ∧ us.length ≤ Rows.uptoBulk d := by
 obtain ⟨n, h⟩ := h
 obtain ⟨xs, h1, h2, h3, h4⟩ := enter (c := ⟨emp, fun _ => False, fun _ => 0, fun b => b < W.heap.size, W⟩) okTs53 rfl (fun b hb => hb) n 53 _ d p (by simp) h
 obtain ⟨m, es, hn, rfl, ha⟩ := dT_slice Tryz.underlying53 h1
 have hus : ∃ us : List Tk, es = ml Tk.t us ∧ us.length ≤ Rows.uptoBulk d := by
  rcases ha with ⟨_, rfl⟩ | ⟨elems, rest, rfl, ha⟩
  ·exact ⟨[], rfl, by simp⟩
  ·obtain ⟨us, h1, h2⟩ := toTks elems es ha
   exact ⟨us, h1, by simp only [Rows.uptoBulk]; omega⟩
 obtain ⟨us, rfl, hl⟩ := hus
 refine ⟨us, ?_, hl⟩
 rw [cells61] at h2
 rwa [hv] at h2
theorem strOf {W : World} {base : Nat} {v : Value} (h0 : Value.okWide Tryz.prog W .any base 9 v) : ∃ s : List UInt8, v = str s := by
 unfold Value.okWide at h0
 rw [Tryz.underlying9] at h0
 replace h0 : Cell.okWide Tryz.prog W .any base 9 v := h0
 unfold Cell.okWide at h0
 rw [Tryz.underlying9] at h0
 cases v with
 | string b => exact ⟨b.data.toList, rfl⟩
 | _ => simp only [Cell.ok, Tryz.underlying9] at h0
theorem laidOut : laidOutB Tryz.prog = true := by kernel_rfl
theorem sliceOf {base : Nat} {W : World} {v : Value} (h : Value.okWide Tryz.prog W .any base 53 v) : v.cells.toList = [v] := by
 unfold Value.okWide at h
 rw [Tryz.underlying53] at h
 cases v with
 | agg cs =>
  replace h : Cell.okWide Tryz.prog W .any base 53 (.agg cs) := h
  unfold Cell.okWide at h
  rw [Tryz.underlying53] at h
  simp only [Cell.ok, Tryz.underlying53] at h
 | _ => rfl
theorem tabLaid : (Rows.tokenRoundTripUptoRow.laid.filter fun x => x.1 == "internal/strconv.uint64pow10") = [("internal/strconv.uint64pow10", Lib.tabData .u64 Lib.pow10Tab)] := by kernel_rfl
theorem tabOf {W : World} (h : laidMetH Tryz.prog Rows.tokenRoundTripUptoRow.laid W) : Lib.TabIs Tryz.prog W "internal/strconv.uint64pow10" .u64 Lib.pow10Tab := by
 have h1 := h.filter (fun x => x.1 == "internal/strconv.uint64pow10")
 rw [tabLaid, Go.MakeChecks.laidMetH_plain _ _ _ (by kernel_rfl)] at h1
 exact Lib.tabIs_of_head A7.gT (by kernel_rfl) Tryz.underlying180 Tryz.underlying129 (by kernel_rfl) (by kernel_rfl) h1
theorem contract (H : Type) (enc : TypeId × Value → H) (W : World) (base : Nat) (args : Array Value) (ds gs : List (DataW H)) (before : List MemPlace)
  (hval : ∀ (j : Nat) t v, Tryz.f9.params[j]? = some t → args[j]? = some v → Value.okWide Tryz.prog W .any base t v)
  (hW : DataW.Whole enc Tryz.prog Tryz.f9.params.toList Rows.tokenRoundTripSpec.vars false W args.toList ds gs before) (hk : Rows.uptoSmall H (ds ++ gs) = true) (hX : laidMetH Tryz.prog Rows.tokenRoundTripUptoRow.laid W) (hsh : W.ShapedOpen Tryz.prog) :
  Calls Tryz.prog 9 args W fun e W' => ∃ v, e = .returned v ∧ Rows.tokenRoundTripSpec.post enc Tryz.prog Tryz.f9 false true false false W args v W' := by
 have ht := tabOf hX
 have hW' := hW
 obtain ⟨p, q, hA0, hV, rfl, hfz, hnd⟩ := hW
 have hA : DataW.TrodAll enc Tryz.prog W 0 (fun _ => true) true Tryz.f9.params.toList args.toList ds p := hA0
 rw [Tryz.params9] at hA hval
 obtain ⟨v0, v1, d0, d1, p0, p1, rfl, rfl, rfl, h0, h1⟩ := trodAll_two hA
 obtain ⟨rfl, rfl⟩ := trodVars_none hV
 have hk := of_decide_eq_true hk
 simp only [List.append_nil, Rows.uptoBulkAll] at hk
 obtain ⟨us, rx, bx⟩ := argIn (sliceOf (hval 0 53 v0 rfl rfl)) h0
 obtain ⟨w, rfl⟩ := strOf (hval 1 9 v1 rfl rfl)
 obtain ⟨n0, t0⟩ := h0
 obtain ⟨n1, t1⟩ := h1
 have lt0 : ∀ z ∈ p0, z.block < W.heap.size := DataW.trod_lt n0 _ _ _ t0
 have lt1 : ∀ z ∈ p1, z.block < W.heap.size := DataW.trod_lt n1 _ _ _ t1
 have hr : RepL ⟨emp, fun _ => False, fun _ => 0, fun b => b < W.heap.size, W⟩ [.lst 4 (ml Tk.t us), .sc (str w)] [v0, str w] := by
  cases rx with
  | cons _ _ _ _ h1 h2 => exact .cons _ _ _ _ h1 (.cons _ _ _ _ (.sc _ rfl) .nil)
 refine (walk us w (by omega) W (Tryz.laysM143.s1_3 W hsh) ht hr).mono fun e W' ⟨he, bel⟩ => ?_
 subst he
 refine ⟨_, rfl, _, _, _, [], _, [], hW', trodAll_mk1 (shut_bool Tryz.underlying4 _), trodAll_mk2 (Below.trod laidOut (by kernel_rfl) (of_decide_eq_true (by kernel_rfl)) ⟨n0, t0⟩ bel lt0) (Below.trod laidOut (by kernel_rfl) (of_decide_eq_true (by kernel_rfl)) ⟨n1, t1⟩ bel lt1), rfl, bel.frame _, fun h => by cases h⟩
theorem witness_sh {H : Type} {enc : TypeId × Value → H} {C : Checked} {os : Os} {f : FuncId} {fn : Func} {s : OpenSpec} {conds : List PathCond} {apart : Bool} {laid : List (String × DataW Unit)} (modest : Bool) (w0 : World) (args : Array Value) (hos : w0.os = os)
  (hsh : (w0.forCall (fun _ _ => 0) ⟨#[], args, []⟩).Shaped C.prog) (hok : Input.okWideB C.prog (w0.forCall (fun _ _ => 0) ⟨#[], args, []⟩) f ⟨#[], args, []⟩ = true)
  (hrow : s.preRow enc C.prog fn conds apart laid (w0.forCall (fun _ _ => 0) ⟨#[], args, []⟩).memory args) :
  ∃ (w : World) (tape : Tape) (i : Input), w.os = os ∧ (w.forCall tape i).Shaped C.prog ∧ i.vars = [] ∧ Input.okWide C.prog (w.forCall tape i) .any w.heap.size f i ∧
   s.preRow enc C.prog fn conds apart laid (w.forCall tape i).memory i.args ∧ ({ modest := modest } : Assume).holds C.prog (lone (Frame.enter C.prog f i.args .normal) [] (w.forCall tape i)) :=
 ⟨w0, fun _ _ => 0, ⟨#[], args, []⟩, hos, hsh, (Input.okWide_of_okWideB (base := 0) hok).1, (Input.okWide_of_okWideB hok).2, hrow, by
  simp only [Assume.holds]
  exact ⟨by simp, by simp, fun _ => Modest.zero, by simp, by simp⟩⟩
def e0 : Value := .slice none 0 0
theorem own : ownKnob Tryz.prog.godebug = none := by kernel_rfl
theorem met (os : Os) : laidMetH Tryz.prog Rows.tokenRoundTripUptoRow.laid ((World.doorLaid Tryz.prog 4000 os).forCall (fun _ _ => 0) ⟨#[], #[e0, str []], []⟩).memory :=
 laidMetH_of_parts3 (fuel := 8) (laidMet_of_run' 70 (by kernel_rfl) (by kernel_rfl)) (by kernel_rfl) (by kernel_rfl)
def d0 (H : Type) : DataW H := .nil
theorem reads (os : Os) {H : Type} (enc : TypeId × Value → H) : ∃ places, DataW.whole enc Tryz.prog ((World.doorLaid Tryz.prog 4000 os).forCall (fun _ _ => 0) ⟨#[], #[e0, str []], []⟩).memory Tryz.f9.params.toList Rows.tokenRoundTripSpec.vars false #[e0, str []].toList 8 = some ([d0 H, .lit (.string [])], [], places) :=
 ⟨[], by kernel_rfl⟩
theorem lifted (os : Os) (started : os.Started) (H : Type) (enc : TypeId × Value → H) (F : Stop.Interp) :
  ReturnsInHanded {} Tryz.checked os 9 .any ((Rows.OpenSpec.upto Rows.tokenRoundTripSpec).preRow enc Tryz.prog Tryz.f9 Rows.tokenRoundTripUptoRow.domain false Rows.tokenRoundTripUptoRow.laid) (((Rows.OpenSpec.upto Rows.tokenRoundTripSpec).at F).post enc Tryz.prog Tryz.f9 false true false false) := by
 obtain ⟨places, hx⟩ := reads os enc
 refine returnsInHanded_of_row (C := Tryz.checked) (s := Rows.OpenSpec.upto Rows.tokenRoundTripSpec) own started (by kernel_rfl) Tryz.func9
  (witness_sh (enc := enc) (C := Tryz.checked) false (World.doorLaid Tryz.prog 4000 os) #[e0, str []] rfl (World.shaped_of_RefB (by kernel_rfl) (by kernel_rfl)) (by kernel_rfl)
   (OpenSpec.preRow_of_cond 8 hx (by kernel_rfl) (fun k hk => by cases hk; kernel_rfl) (by kernel_rfl) (met os))) ?_
 intro W base args ds gs before hval hW _ hcond _ hX hsh _
 exact contract H enc W base args ds gs before hval hW (hcond _ rfl) hX hsh
theorem tokenRoundTripUpto_row : Rows.TokenRoundTripUptoSaid :=
 OpenClaim.holds_of_cond 9 Tryz.f9 rfl rfl rfl rfl rfl rfl rfl ⟨rfl, rfl, rfl, rfl, rfl⟩ rfl rfl rfl rfl rfl (by kernel_rfl) Tryz.func9 (by kernel_rfl)
  (of_decide_eq_true (by kernel_rfl)) (by unfold Func.isWrapper; first | (rw [if_pos (by decide +kernel)]; kernel_rfl) | (rw [if_neg (by decide +kernel)]; exact ⟨rfl, rfl⟩))
  (fun os started H enc _ F => by rw [OpenClaim.pre_eq_preRow]; exact lifted os started H enc F)
theorem tokenRoundTripUpto_holds : Rows.TokenRoundTripUptoCardSaid :=
 Claim7.holds_tied_plain_at .later [] _ _ _ _ tokenRoundTripUpto_row (fun _ h => by cases h) (by kernel_rfl) (fun _ h => by cases h) tokenRoundTripUpto_row_tie rfl ⟨rfl, rfl⟩ (by kernel_rfl) rfl
  (fun f fn hf hfn => by
   obtain rfl : f = 9 := Option.some.inj ((show Tryz.prog.funcNamed "netlab/netlablaw07.TokenRoundTrip" = some 9 by kernel_rfl).symm.trans hf) |>.symm
   obtain rfl : fn = Tryz.f9 := (Option.some.inj (Tryz.func9.symm.trans hfn)).symm
   refine ⟨by kernel_rfl, fun j t ht => ?_⟩
   rw [Tryz.params9] at ht
   have : t = 53 ∨ t = 9 := by
    have := Array.mem_of_getElem? ht
    simpa using this
   rcases this with rfl | rfl
   ·exact (show Tryz.prog.wantsStandIn 53 = false by kernel_rfl)
   ·exact (show Tryz.prog.wantsStandIn 9 = false by kernel_rfl))
  (by kernel_rfl)
#print axioms tokenRoundTripUpto_holds
end Go.Proofs.YtioldkniiilhnaaGreatDoor
