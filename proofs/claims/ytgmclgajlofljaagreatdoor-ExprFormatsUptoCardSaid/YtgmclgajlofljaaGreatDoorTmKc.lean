/- The fast evaluator is sound: operations. -/
import Derived.Test.YtgmclgajlofljaaGreatDoorTmKb
import Derived.Laws.Strings
set_option linter.all false
namespace Go.TM
open Go
theorem pack_t {n : Nat} {v : V} {S : KS} {k : V → KS → Option An} {r : An} (h : packK n v S k = some r) : ∃ w S1, pack n v.t (abS S) = some (w.t, abS S1) ∧ k w S1 = some r := by
 unfold packK at h
 unfold pack
 rw [loc_t, kdd_t]
 cases hd : kdd (locV v n) with
 | nil =>
  rw [hd] at h
  simp only [br_some, lv_t] at h
  refine ⟨_, _, ?_, h.2⟩
  have hp : packOk n (([] : List Nat).map lc) (abS S) = true := rfl
  have hf' : ∀ l, packF n (([] : List Nat).map lc) n 0 (lc l) = (pkF n [] 0 l).map lc := by
   intro l
   have := packF_t n n (n * 4294967296) [] (k0 := 0) (by omega) (by simp) l
   rw [this]
   rfl
  rw [← rnz_t hf', abS_tr]
  rw [List.map_nil] at hp ⊢
  rw [hp, h.1, Bool.and_self, if_pos rfl, addS_nil]
  rfl
 | cons l ls =>
  rw [hd] at h
  simp only [br_some, lv_t, nblt, klen_eq] at h
  obtain ⟨h1, h2, h3, h4⟩ := h
  refine ⟨_, _, ?_, h4⟩
  rw [pkOk_t] at h1
  have hk : n * 4294967296 = n * 4294967296 + 0 := by omega
  have hf := packF_t n n (n * 4294967296) (l :: ls) (k0 := 0) hk (by omega)
  rw [h1, h2, Bool.and_self, if_pos rfl, rnz_t hf, ← abS_tr, kadd_t hk (by omega) h1]
  rfl
theorem snR_t {v : V} {S : KS} {k : V → List Nat → Option An} {r : An} (h : snRW v S v k = some r) : ∃ w ls, snapR (abS S) v.t = some (w.t, ls.map lc) ∧ k w ls = some r := by
 cases v with
 | tup cs =>
  obtain ⟨ws, ls, h1, h2⟩ := snL_t cs (show (snL cs S fun ds ls => k (.tup ds) ls) = some r from h)
  exact ⟨.tup ws, ls, by simp only [V.t, snapR, h1], h2⟩
 | _ =>
  obtain ⟨w, ls, h1, h2⟩ := sn_t _ (show snV S _ k = some r from h)
  exact ⟨w, ls, by simp only [V.t] at h1 ⊢; exact h1, h2⟩
theorem hand_t {z : Bool} {n : Nat} {v : V} {S : KS} {k : V → KS → Option An} {r : An} (h : handK z n v S k = some r) : ∃ w S1, hand z n v.t (abS S) = some (w.t, abS S1) ∧ k w S1 = some r := by
 unfold handK at h
 cases z with
 | false => exact pack_t h
 | true =>
  obtain ⟨w, ls, h1, h2⟩ := snR_t h
  obtain ⟨w2, S2, h3, h4⟩ := pack_t h2
  refine ⟨w2, S2, ?_, h4⟩
  simp only [hand, cond_true, h1, ← abS_ro, h3]
theorem freeAt_t (S : KS) (L k0 : Nat) : ∀ n, k0 + n < 4294967296 → freeAt n S (L * 4294967296 + k0) = (List.range n).all fun j => (abS S (L, k0 + j)).isNone
 | 0, _ => rfl
 | n + 1, h => by
  have ih := freeAt_t S L k0 n (by omega)
  show (@Bool.rec (fun _ => Bool) false (freeAt n S (L * 4294967296 + k0)) (fresh S (L * 4294967296 + k0 + n))) = _
  rw [br_and, ih, List.range_succ, List.all_append, fresh_iff, Nat.add_assoc, lc_mk _ _ (by omega)]
  simp [Bool.and_comm]
theorem take_t {n L : Nat} {d : Option Nat} {v : V} {S1 S : KS} {k : V → KS → Option An} {r : An} (h : takeK n L d v S1 S k = some r) : ∃ w S2, takeIn n L d v.t (abS S1) (abS S) = some (w.t, abS S2) ∧ k w S2 = some r := by
 unfold takeK at h
 unfold takeIn
 rw [loc_t, kdd_t]
 cases hd : kdd (locV v n) with
 | nil =>
  rw [hd] at h
  simp only [br_some, lv_t] at h
  exact ⟨_, _, by simp only [List.map_nil, h.1, if_true], h.2⟩
 | cons l ls =>
  rw [hd] at h
  simp only [op_some, br_some, lv_t, nblt, nble, klen_eq] at h
  obtain ⟨d, rfl, h1, h2, h3, h4, h5, h6⟩ := h
  refine ⟨_, _, ?_, h6⟩
  rw [pkOk_t] at h1
  have hk : Nat.add (Nat.mul L 4294967296) (Nat.mul 1000 (Nat.succ d)) = L * 4294967296 + 1000 * (d + 1) := rfl
  have hf := packF_t n L _ (l :: ls) hk (by simp only [List.length_cons] at h3 ⊢; omega)
  rw [hk, freeAt_t _ _ _ _ (by simp only [List.length_cons] at h3 ⊢; omega)] at h5
  have h3' : ((l :: ls).map lc).length ≤ 1000 := by rw [List.length_map]; exact h3
  have h5' : ((List.range ((l :: ls).map lc).length).all fun j => (abS S (L, 1000 * (d + 1) + j)).isNone) = true := by rw [List.length_map]; exact h5
  simp only [List.map_cons] at h3' h5' h1 ⊢
  simp only [h1, h2, h3', h5', decide_true, Bool.and_self, if_true]
  rw [← List.map_cons, rnz_t hf, kadd_t hk (by simp only [List.length_cons] at h3 ⊢; omega) (by simpa using h1)]
theorem arrL_t (S : KS) : ∀ ls : List Nat, arrL ls S = arrLst (abS S) (ls.map lc)
 | [] => rfl
 | q :: ls => by
  have ih := arrL_t S ls
  show (@Bool.rec (fun _ => Bool) (arrL ls S) true (@Option.rec KO (fun _ => Bool) false arrL1 (kget S q))) = _
  rw [br_or, ih]
  unfold arrLst
  rw [List.map_cons, List.any_cons]
  congr 1
  rw [abS_lc]
  cases kget S q with
  | none => rfl
  | some o =>
   cases o with
   | box bt cs => exact hlL_t cs
   | arr ro g sz e xs =>
    show (@Bool.rec (fun _ => Bool) (hlL xs) true ro) = _
    rw [br_or, hlL_t]; rfl
   | gone => rfl
theorem keep_t (ls : List Nat) (v : V) (S1 S : KS) : keepS (ls.map lc) v.t (abS S1) (abS S) = abS (keepK ls v S1 S) := by
 cases ls with
 | nil => rfl
 | cons l ls =>
  unfold keepS
  show _ = abS (@Bool.rec (fun _ => KS) S (kro S (l :: ls)) (@Bool.rec (fun _ => Bool) (arrL (kdd (locV v 1)) S1) true (hlV v)))
  rw [br_if, br_or, arrL_t, hl_t, loc_t, kdd_t]
  simp only [List.map_cons, List.isEmpty_cons, Bool.not_false, Bool.true_and]
  cases hasLst v.t || arrLst (abS S1) ((kdd (locV v 1)).map lc) with
  | true => simp only [cond_true, if_true, abS_ro, List.map_cons]
  | false => simp
def CallT (call : CallK) (cF : CallF) : Prop := ∀ L f args S k r, call L f args S k = some r → ∃ v S1, cF L f (V.tL args) (abS S) = some (v.t, abS S1) ∧ k v S1 = some r
def OmT (u8 : Cf) (om : FuncId → List Nat) : Prop := om = fun g => if g = 1000000000 then u8.b else u8.om g
section
variable {call : CallK} {cF : CallF} {u8 : Cf} {om : FuncId → List Nat} {L : Nat} {S : KS} {s : SL} {r : An}
theorem lowK_t (cf : Cf) (L g : Nat) (as : List V) : lowK cf L g as = lowC L (cf.om g) (V.tL as) := by
 unfold lowK lowC
 rw [br_and, br_and, kin_eq, lvL_t, Bool.and_assoc]; rfl
theorem lowTK_t {d : Option Nat} {v : V} {S1 S : KS} {k : V → KS → Option An} {r : An} (h : lowTK L d v S1 S k = some r) : ∃ w S2, lowTake L d v.t (abS S1) (abS S) = some (w.t, abS S2) ∧ k w S2 = some r := by
 unfold lowTK at h
 unfold lowTake
 rw [br_if, lv_t] at h
 split at h
 ·rename_i h1
  have h1 : lvle (L - 1) v.t = true := h1
  rw [if_pos h1]
  exact ⟨v, S, rfl, h⟩
 ·rename_i h1
  have h1 : ¬ lvle (L - 1) v.t = true := h1
  rw [if_neg h1]
  rw [br_some, klen_eq] at h
  obtain ⟨h2, h⟩ := h
  rw [loc_t, kdd_t, if_pos (by rw [List.length_map]; exact Nat.le_of_ble_eq_true h2)]
  obtain ⟨w, S2, h3, h4⟩ := take_t h
  rw [br_none, lv_t] at h4
  refine ⟨w, S2, ?_, h4.2⟩
  rw [h3]
  have h5 : ¬ lvle (L - 1) w.t = true := by
   have : lvle (L - 1) w.t = false := h4.1
   rw [this]; decide
  simp only []
  rw [if_neg h5]
theorem plK_t (L : Nat) (om : List Nat) (as caps : List V) : plK L om as caps = plainC L om (V.tL as) (V.tL caps) := by
 have hce : (V.tL caps).isEmpty = kempty caps := by rw [kempty_eq]; cases caps <;> simp only [V.tL] <;> rfl
 unfold plK plainC
 rw [clL_t, hce, kin_eq]
 cases closedL (V.tL as) <;> cases kempty caps <;> cases om.contains 3000 <;> cases Nat.ble 1 L <;> rfl
theorem shK_t (om : List Nat) (as caps : List V) : shut1 om (V.tL as) (V.tL caps) = (shK om as caps).map lc := by
 unfold shut1 shK
 rw [br_if, kin_eq, ← clL_t]
 cases om.contains 2000 with
 | false => rfl
 | true =>
  simp only [if_true, Bool.true_and]
  rw [br_if]
  cases clL as with
  | false => rfl
  | true =>
   simp only [cond_true, if_true]
   cases caps with
   | nil => rfl
   | cons v r => cases r with
    | nil => cases v <;> simp only [V.tL, V.t] <;> rfl
    | cons w r => simp only [V.tL]; cases v <;> rfl
theorem boxKB_t (S : KS) (l : Nat) : boxC (abS S) (lc l) = boxKB S l := by
 unfold boxC boxKB
 rw [abS_lc]
 cases kget S l with
 | none => rfl
 | some o => cases o with
  | box bt cs => simp only [Option.map_some, KO.t]; rw [← clL_t]; rfl
  | arr ro g sz e xs => rfl
  | gone => rfl
theorem only_t (S : KS) (l : Nat) : abS (konly l S) = only (lc l) (abS S) := by
 unfold konly
 funext m
 unfold only
 by_cases hm : m = lc l
 ·subst hm
  rw [if_pos rfl]
  cases hk : kget S l with
  | none => show abS [] _ = _; rw [abS_nil, abS_lc, hk]; rfl
  | some o => show abS (kput [] l o) _ = _; rw [abS_put, abS_lc, hk]; simp [upd]
 ·rw [if_neg hm]
  cases hk : kget S l with
  | none => show abS [] _ = _; rw [abS_nil]; rfl
  | some o => show abS (kput [] l o) _ = _; rw [abS_put, abS_nil]; simp [upd, hm, emp]
theorem lay1_t {S1 S : KS} {l : Nat} (h : boxKB S1 l = true) : abS (klay1 l S1 S) = lay1 (lc l) (abS S1) (abS S) := by
 unfold boxKB at h
 unfold klay1
 funext m
 unfold lay1
 cases hk : kget S1 l with
 | none => rw [hk] at h; cases h
 | some o =>
  show abS (kput S l o) m = _
  rw [abS_put]
  by_cases hm : m = lc l
  ·subst hm
   rw [if_pos rfl, abS_lc, hk]; simp [upd]
  ·rw [if_neg hm]; simp [upd, hm]
theorem goW_t (hc : CallT call cF) {d : Option Nat} {g : Nat} {as : List V} {k : V → KS → Option An} {o : Option Nat} (h : goKW call L d S g as k o = some r) :
  ∃ v S1 e, goW cF L d g (V.tL as) (abS S) (o.map lc) = some ⟨v.t, abS S1, e⟩ ∧ k v S1 = some r := by
 cases o with
 | none =>
  obtain ⟨v, S1, h3, h4⟩ := hc _ _ _ _ _ _ (show call L g as S (fun r S1 => takeK (Nat.succ L) L d r S1 (ktr S1 L) k) = some r from h)
  obtain ⟨w, S2, h5, h6⟩ := take_t h4
  refine ⟨w, S2, 2, ?_, h6⟩
  simp only [Option.map_none, goW, h3, ← abS_tr, Option.map_some]
  have h5' : takeIn (L + 1) L d v.t (abS S1) (abS (ktr S1 L)) = some (w.t, abS S2) := h5
  rw [h5']; rfl
 | some l =>
  have h : (@Bool.rec (fun _ => Option An) none (call L g as (konly l S) (fun r S1 => @Bool.rec (fun _ => Option An) none (@Bool.rec (fun _ => Option An) none (k r (klay1 l S1 S)) (boxKB S1 l)) (cl r))) (boxKB S l)) = some r := h
  rw [br_some] at h
  obtain ⟨h1, h2⟩ := h
  obtain ⟨v, S1, h3, h4⟩ := hc _ _ _ _ _ _ h2
  rw [br_some, br_some] at h4
  obtain ⟨h4, h5, h6⟩ := h4
  refine ⟨v, klay1 l S1 S, 2, ?_, h6⟩
  rw [only_t] at h3
  simp only [Option.map_some, goW, boxKB_t, h1, if_true, h3, h5, ← cl_t, h4, Bool.and_self, lay1_t h5]
theorem go_t (hc : CallT call cF) (ho : OmT u8 om) {d : Option Nat} {g : Nat} {args caps : List V} {k : V → KS → Option An} (h : goK call u8 L d S g args caps k = some r) :
  ∃ v S1 e, goT cF om L d (abS S) g (V.tL args) (V.tL caps) = some ⟨v.t, abS S1, e⟩ ∧ k v S1 = some r := by
 unfold goK at h
 simp only [br_none, nbeq_f] at h
 obtain ⟨hg, h⟩ := h
 obtain ⟨as, ls, h1, h2⟩ := snArgs_t (u8.om g) args 0 h
 have hom : om g = u8.om g := by rw [ho]; simp only [if_neg hg]
 unfold goT
 simp only [hom, h1]
 rw [br_if, plK_t] at h2
 split at h2
 ·rename_i hcond
  rw [if_pos hcond]
  obtain ⟨v, S1, h3, h4⟩ := hc _ _ _ _ _ _ h2
  obtain ⟨w, S2, h5, h6⟩ := take_t h4
  rw [abS_nil] at h3
  refine ⟨w, S2, 1, ?_, h6⟩
  simp only [h3, keep_t, h5, Option.map_some]
 ·rename_i hcond
  rw [if_neg hcond]
  rw [br_if, lowK_t, kapp_eq, tL_app] at h2
  split at h2
  ·rename_i hlow
   rw [if_pos hlow]
   obtain ⟨v, S1, h3, h4⟩ := hc _ _ _ _ _ _ h2
   rw [tL_app, abS_tr, abS_ro] at h3
   have h3 : cF (L - 1) g (V.tL as ++ V.tL caps) (trunc (L - 1) (setRo (abS S) (ls.map lc))) = some (v.t, abS S1) := h3
   have e : abS (klay (kro S ls) S1 (Nat.sub L 1)) = lay (L - 1) (abS S1) (setRo (abS S) (ls.map lc)) := by rw [abS_lay, abS_ro]; rfl
   obtain ⟨w, S2, h5, h6⟩ := lowTK_t h4
   rw [e] at h5
   refine ⟨w, S2, 2, ?_, h6⟩
   simp only [h3, h5, Option.map_some]
  rename_i hlow
  rw [if_neg hlow]
  obtain ⟨w, S2, e, h5, h6⟩ := goW_t hc h2
  rw [tL_app, abS_ro, ← shK_t] at h5
  exact ⟨w, S2, e, h5, h6⟩
theorem eO_t (s : SL) (x : O) : ev s.t x.t' = some (eO s x).t := by
 cases x with
 | t n => simp only [O.t', ev, kg_t]; rfl
 | f n => simp only [O.t', ev]; show _ = some (V.t (.fn n)); simp only [V.t]
 | p c n => simp only [O.t', ev, evV, isSc, if_true]; show _ = some (V.t (.p c n)); simp only [V.t]
 | m c n => simp only [O.t', ev, evV, isSc, if_true]; show _ = some (V.t (.m c n)); simp only [V.t]
 | b q => simp only [O.t', ev, evV, isSc, if_true]; show _ = some (V.t (.b q)); simp only [V.t]
 | s l n => simp only [O.t', ev, evV, isSc, if_true]; show _ = some (V.t (.s l n)); simp only [V.t]
 | np => simp only [O.t', ev, evV, isSc, if_true]; show _ = some (V.t .np); simp only [V.t]
 | ns => simp only [O.t', ev, evV, isSc]; show _ = some (V.t .ns); simp only [V.t]; rfl
 | nf => simp only [O.t', ev, evV, isSc, if_true]; show _ = some (V.t .nf); simp only [V.t]
 | ni => simp only [O.t', ev, evV, isSc, if_true]; show _ = some (V.t .ni); simp only [V.t]
theorem eL_t (s : SL) : ∀ xs : List O, evL s.t (xs.map O.t') = some (V.tL (eL xs s))
 | [] => by simp only [List.map_nil, evL]; show _ = some (V.tL []); simp only [V.tL]
 | x :: xs => by
  simp only [List.map_cons, evL, eO_t, eL_t s xs]
  show _ = some (V.tL (eO s x :: eL xs s)); simp only [V.tL]
theorem onP_iff {v : V} {k : Nat → Nat → Option An} : onP v k = some r ↔ ∃ c n, v = .p c n ∧ k c n = some r := by
 cases v <;> first | (simp [onP]; done) | exact ⟨fun h => ⟨_, _, rfl, h⟩, by rintro ⟨_, _, h1, h2⟩; cases h1; exact h2⟩
theorem onB_iff {v : V} {k : Bool → Option An} : onB v k = some r ↔ ∃ q, v = .b q ∧ k q = some r := by cases v <;> simp [onB]
theorem onS_iff {v : V} {k : Nat → Nat → Option An} : onS v k = some r ↔ ∃ c n, v = .s c n ∧ k c n = some r := by
 cases v <;> first | (simp [onS]; done) | exact ⟨fun h => ⟨_, _, rfl, h⟩, by rintro ⟨_, _, h1, h2⟩; cases h1; exact h2⟩
theorem onAgg_iff {v : V} {k : List V → Option An} : onAgg v k = some r ↔ ∃ cs, v = .agg cs ∧ k cs = some r := by cases v <;> simp [onAgg]
theorem onTup_iff {v : V} {k : List V → Option An} : onTup v k = some r ↔ ∃ cs, v = .tup cs ∧ k cs = some r := by cases v <;> simp [onTup]
theorem onPtr_iff {v : V} {k : Nat → Nat → Option An} : onPtr v k = some r ↔ ∃ c n, v = .ptr c n ∧ k c n = some r := by
 cases v <;> first | (simp [onPtr]; done) | exact ⟨fun h => ⟨_, _, rfl, h⟩, by rintro ⟨_, _, h1, h2⟩; cases h1; exact h2⟩
theorem vI_t (c : Nat) (n : Int) : (vI c n).t = .sc (.int (kd c) n) := by
 cases n with
 | ofNat m => show V.t (.p c m) = _; simp only [V.t]; rfl
 | negSucc m => show V.t (.m c m) = _; simp only [V.t]
theorem okc_max {c n : Nat} (h : okc c = true) (hn : n < c) : (kd c).wrap (n : Int) = n := by
 unfold okc at h
 unfold kd
 simp only [cond_eq_ite, nbeq] at h ⊢
 split at h
 ·subst_vars; simp only [if_true, IntKind.wrap, IntKind.signed, IntKind.bits]; simp; omega
 split at h
 ·subst_vars; simp only [if_true, IntKind.wrap, IntKind.signed, IntKind.bits]; simp; omega
 split at h
 ·subst_vars; simp only [if_true, IntKind.wrap, IntKind.signed, IntKind.bits]; simp; omega
 split at h
 ·subst_vars; simp only [if_true, IntKind.wrap, IntKind.signed, IntKind.bits]; simp; omega
 split at h
 ·subst_vars; simp only [if_true, IntKind.wrap, IntKind.signed, IntKind.bits]; simp; omega
 split at h
 ·subst_vars; simp only [if_true, IntKind.wrap, IntKind.signed, IntKind.bits]; simp; omega
 split at h
 ·subst_vars; simp only [if_true, IntKind.wrap, IntKind.signed, IntKind.bits]; simp; omega
 ·rw [nbeq] at h; subst h; simp only [IntKind.wrap, IntKind.signed, IntKind.bits]; simp; omega
theorem wrap_small {k : IntKind} {n : Nat} (hn : n < 128) : k.wrap (n : Int) = n := by
 cases k <;> simp only [IntKind.wrap, IntKind.signed, IntKind.bits] <;> simp <;> omega
theorem wr_t (c n : Nat) : (wr c n).t = .sc (.int (kd c) ((kd c).wrap (n : Int))) := by
 unfold wr
 simp only [br_if, nblt]
 split
 ·rename_i h; simp only [V.t, wrap_small h]
 ·split
  ·rename_i h
   split
   ·rename_i ho; simp only [V.t, okc_max ho h]
   ·exact vI_t c _
  ·exact vI_t c _
theorem vInt_t {v : V} {k : Nat → Int → Option An} (h : vInt v k = some r) : ∃ c n, v.t = .sc (.int (kd c) n) ∧ k c n = some r := by
 cases v with
 | p c n => exact ⟨c, n, by simp only [V.t], h⟩
 | m c n => exact ⟨c, .negSucc n, by simp only [V.t], h⟩
 | _ => cases h
theorem bytesN_len : ∀ l n, (bytesN l n).length = l
 | 0, _ => rfl
 | l + 1, n => by simp only [bytesN, List.length_cons, bytesN_len l]
theorem bstr_size (l n : Nat) : (bstr l n).size = l := by
 show (bytesN l n).toArray.size = l
 simp [bytesN_len]
theorem bytesN_get : ∀ (l n j : Nat), j < l → (bytesN l n)[j]? = some (UInt8.ofNat (n / 256 ^ j % 256))
 | 0, _, _, h => by omega
 | l + 1, n, 0, _ => by simp [bytesN]
 | l + 1, n, j + 1, h => by
  simp only [bytesN, List.getElem?_cons_succ]
  rw [bytesN_get l (n / 256) j (by omega), Nat.div_div_eq_div_mul, Nat.pow_succ, Nat.mul_comm]
theorem bytesN_mod : ∀ (l n : Nat), bytesN l (n % 256 ^ l) = bytesN l n
 | 0, _ => rfl
 | l + 1, n => by
  simp only [bytesN]
  have h1 : n % 256 ^ (l + 1) % 256 = n % 256 := by
   rw [Nat.pow_succ, Nat.mul_comm, Nat.mod_mul_right_mod]
  have h2 : n % 256 ^ (l + 1) / 256 = n / 256 % 256 ^ l := by
   rw [Nat.pow_succ, Nat.mul_comm, Nat.mod_mul_right_div_self]
  rw [h1, h2, bytesN_mod l]
theorem bytesN_inj : ∀ (l : Nat) {n m : Nat}, bytesN l n = bytesN l m → n % 256 ^ l = m % 256 ^ l
 | 0, n, m, _ => by simp [Nat.mod_one]
 | l + 1, n, m, h => by
  simp only [bytesN, List.cons.injEq] at h
  have h1 : n % 256 = m % 256 := by
   have := congrArg UInt8.toNat h.1
   simpa [UInt8.toNat_ofNat'] using this
  have h2 := bytesN_inj l h.2
  rw [Nat.pow_succ, Nat.mul_comm, Nat.mod_mul, Nat.mod_mul, h1, h2]
theorem bytesN_drop : ∀ (j l n : Nat), (bytesN l n).drop j = bytesN (l - j) (n / 256 ^ j)
 | 0, l, n => by simp
 | j + 1, 0, n => by simp [bytesN]
 | j + 1, l + 1, n => by
  simp only [bytesN, List.drop_succ_cons]
  rw [bytesN_drop j l, Nat.div_div_eq_div_mul, Nat.pow_succ, Nat.mul_comm (256 ^ j), Nat.add_sub_add_right]
theorem bytesN_take : ∀ (j l n : Nat), (bytesN l n).take j = bytesN (min j l) n
 | 0, l, n => by simp [bytesN]
 | j + 1, 0, n => by simp [bytesN]
 | j + 1, l + 1, n => by
  simp only [bytesN, List.take_succ_cons]
  rw [bytesN_take j l, Nat.add_min_add_right]; rfl
theorem bytesN_app : ∀ (l l' n n' : Nat), bytesN l n ++ bytesN l' n' = bytesN (l + l') (n % 256 ^ l + 256 ^ l * (n' % 256 ^ l'))
 | 0, l', n, n' => by simp [bytesN, Nat.mod_one, bytesN_mod]
 | l + 1, l', n, n' => by
  rw [show l + 1 + l' = (l + l') + 1 from by omega]
  simp only [bytesN, List.cons_append]
  have e : 256 ^ (l + 1) = 256 * 256 ^ l := by rw [Nat.pow_succ, Nat.mul_comm]
  have h0 : n % (256 * 256 ^ l) = n % 256 + 256 * (n / 256 % 256 ^ l) := Nat.mod_mul
  have h1 : (n % 256 ^ (l + 1) + 256 ^ (l + 1) * (n' % 256 ^ l')) % 256 = n % 256 := by
   rw [e, h0, Nat.mul_assoc]; omega
  have h2 : (n % 256 ^ (l + 1) + 256 ^ (l + 1) * (n' % 256 ^ l')) / 256 = n / 256 % 256 ^ l + 256 ^ l * (n' % 256 ^ l') := by
   rw [e, h0, Nat.mul_assoc]; omega
  rw [h1, h2, bytesN_app l l']
theorem bstr_eq (l n l' n' : Nat) : ((bstr l n).toList == (bstr l' n').toList) = seq l n l' n' := by
 have e : ∀ l n, (bstr l n).toList = bytesN l n := by intro l n; simp [bstr, ByteArray.toList_eq]
 rw [e, e]
 unfold seq
 rw [br_and, nbeq_d, nbeq_d]
 show _ = (decide (l = l') && decide (n % 256 ^ l = n' % 256 ^ l'))
 by_cases h : l = l'
 ·subst h
  by_cases h2 : n % 256 ^ l = n' % 256 ^ l
  ·have : bytesN l n = bytesN l n' := by rw [← bytesN_mod l n, h2, bytesN_mod]
   simp [this, h2]
  ·have : ¬ bytesN l n = bytesN l n' := fun e => h2 (bytesN_inj l e)
   simp [this, h2]
 ·have : ¬ bytesN l n = bytesN l' n' := fun e => h (by rw [← bytesN_len l n, e, bytesN_len])
  simp [this, h]
theorem sCat_t (l n l' n' : Nat) : (sCat l n l' n').t = .sc (.string (bstr l n ++ bstr l' n')) := by
 unfold sCat
 simp only [V.t]
 have : bstr (l + l') (n % 256 ^ l + 256 ^ l * (n' % 256 ^ l')) = bstr l n ++ bstr l' n' := by
  apply ByteArray.ext
  simp [bstr, ByteArray.data_append, ← bytesN_app]
 rw [← this]; rfl
theorem bstr_idx (l n j : Nat) (h : j < l) : idxSR (bstr l n) (j : Int) = some (.sc (.int .u8 (n / 256 ^ j % 256 : Nat))) := by
 unfold idxSR
 rw [if_pos (by omega)]
 have : (bstr l n)[(j : Int).toNat]? = some (UInt8.ofNat (n / 256 ^ j % 256)) := by
  have hb := bytesN_get l n j h
  rw [Int.toNat_natCast]
  have hs : j < (bstr l n).size := by rw [bstr_size]; exact h
  rw [getElem?_pos (bstr l n) j hs]
  have h2 : j < (bytesN l n).length := by rw [bytesN_len]; exact h
  rw [List.getElem?_eq_getElem h2] at hb
  simp only [Option.some.injEq] at hb ⊢
  rw [← hb]
  simp [bstr, ByteArray.getElem_eq_getElem_data]
 rw [this]
 simp [UInt8.toNat_ofNat', Nat.mod_mod]
theorem bstr_cut (l n a b : Nat) (h1 : a ≤ b) (h2 : b ≤ l) : (bstr l n).extract a b = bstr (b - a) (n / 256 ^ a % 256 ^ (b - a)) := by
 apply ByteArray.ext
 simp only [bstr, ByteArray.data_extract, bytesN_mod]
 rw [← Array.toList_inj]
 simp [Array.toList_extract, List.extract, bytesN_drop, bytesN_take, Nat.min_eq_left (Nat.sub_le_sub_right h2 a)]
theorem bytesT_bstr (l n : Nat) : bytesT (bstr l n) = V.tL (byL l n) := by
 unfold bytesT bstr
 simp only []
 induction l generalizing n with
 | zero => simp only [bytesN, List.map_nil]; show _ = V.tL []; simp only [V.tL]
 | succ l ih =>
  simp only [bytesN, List.map_cons]
  show _ = V.tL (.p 256 (n % 256) :: byL l (n / 256))
  simp only [V.tL, V.t, ← ih]
  have : ((UInt8.ofNat (n % 256)).toNat : Int) = ((n % 256 : Nat) : Int) := by simp [UInt8.toNat_ofNat', Nat.mod_mod]
  rw [this]; rfl
theorem pkB_t : ∀ (xs : List V) {n : Nat}, pkB xs = some n → bytesV (V.tL xs) = some (bytesN xs.length n)
 | [], n, h => by simp only [V.tL, bytesV]; rfl
 | v :: xs, n, h => by
  have h : pkB1 v (pkB xs) = some n := h
  cases v with
  | p c m =>
   have h : (@Option.rec Nat (fun _ => Option Nat) none (fun r => @Bool.rec (fun _ => Option Nat) none (some (m % 256 + 256 * r)) (Nat.beq c 256)) (pkB xs)) = some n := h
   simp only [op_some, br_some, nbeq, Option.some.injEq] at h
   obtain ⟨q, hq, rfl, rfl⟩ := h
   simp only [V.tL, V.t]
   rw [show kd 256 = .u8 from rfl]
   simp only [bytesV, pkB_t xs hq, Option.map_some, List.length_cons, bytesN, Option.some.injEq, List.cons.injEq]
   have e1 : (m % 256 + 256 * q) % 256 = m % 256 := by omega
   have e2 : (m % 256 + 256 * q) / 256 = q := by omega
   rw [e1, e2]
   refine ⟨?_, rfl⟩
   apply UInt8.toNat_inj.1
   simp [UInt8.toNat_ofNat', Nat.mod_mod]
  | _ => cases h
theorem isBy_t (v : V) (h : isBy v = true) : isByte v.t = true := by
 cases v with
 | p c n =>
  have h : (@Bool.rec (fun _ => Bool) false (Nat.blt n 256) (Nat.beq c 256)) = true := h
  rw [br_and, Bool.and_eq_true, nbeq, nblt] at h
  obtain ⟨rfl, h⟩ := h
  simp only [V.t]
  rw [show kd 256 = .u8 from rfl]
  simp only [isByte, Bool.and_eq_true, decide_eq_true_eq]
  omega
 | _ => cases h
theorem utf8_small (n : Nat) (h : n < 128) : Utf8.encode (n : Int) = bstr 1 n := by
 unfold Utf8.encode
 have hv : Utf8.valid (n : Int) = true := by
  unfold Utf8.valid
  simp only [Bool.or_eq_true, Bool.and_eq_true, decide_eq_true_eq]
  omega
 simp only [hv, if_true, Int.toNat_natCast]
 rw [if_pos (by omega)]
 simp only [bstr, bytesN]
 rw [Nat.mod_eq_of_lt (by omega)]
theorem slow_t {op : BinOp} {a b : V} {k : V → Option An} (h : slowB op a b k = some r) : ∃ x y v w, a.t = .sc x ∧ b.t = .sc y ∧ binS op x y = some v ∧ w.t = .sc v ∧ k w = some r := by
 obtain ⟨c, x, h1, h⟩ := vInt_t h
 obtain ⟨c', y, h2, h⟩ := vInt_t h
 rw [br_some] at h
 obtain ⟨hok, h⟩ := h
 unfold slowV at h
 split at h
 ·rename_i q hq
  exact ⟨_, _, _, .b q, h1, h2, hq, by simp only [V.t], h⟩
 ·rename_i kk n hq
  refine ⟨_, _, _, vI c n, h1, h2, hq, ?_, h⟩
  rw [vI_t]
  have : kk = kd c := by
   revert hq
   unfold binS
   cases op <;> simp only [] <;> (try split) <;> intro hq <;> simp_all
  rw [this]
 ·cases h
theorem bin_t {op : BinOp} {a b : V} {k : V → Option An} (h : binK a op b k = some r) : ∃ x y v w, a.t = .sc x ∧ b.t = .sc y ∧ binS op x y = some v ∧ w.t = .sc v ∧ k w = some r := by
 cases a with
 | m c n => exact slow_t h
 | p c n =>
  have h : binA b op c n k = some r := h
  cases b with
  | m c' n' => exact slow_t h
  | p c' n' =>
   have h : bop op c n c' n' k = some r := h
   have go : ∀ (v : Value) (w : V), c = c' → binS op (.int (kd c) (n : Int)) (.int (kd c) (n' : Int)) = some v → w.t = .sc v → k w = some r →
     ∃ x y v w, (V.p c n).t = .sc x ∧ (V.p c' n').t = .sc y ∧ binS op x y = some v ∧ w.t = .sc v ∧ k w = some r := by
    rintro v w rfl h1 h2 h3
    exact ⟨_, _, v, w, by simp only [V.t], by simp only [V.t], h1, h2, h3⟩
   cases op with
   | add =>
    have h : (@Bool.rec (fun _ => Option An) none (k (wr c (n + n'))) (Nat.beq c c')) = some r := h
    rw [br_some, nbeq] at h
    exact go _ _ h.1 (by simp only [binS, if_true]; rfl) (by rw [wr_t, Int.natCast_add]) h.2
   | mul =>
    have h : (@Bool.rec (fun _ => Option An) none (k (wr c (n * n'))) (Nat.beq c c')) = some r := h
    rw [br_some, nbeq] at h
    exact go _ _ h.1 (by simp only [binS, if_true]; rfl) (by rw [wr_t, Int.natCast_mul]) h.2
   | sub =>
    have h : (@Bool.rec (fun _ => Option An) none (@Bool.rec (fun _ => Option An) (slowB .sub (.p c n) (.p c' n') k) (k (wr c (n - n'))) (Nat.ble n' n)) (Nat.beq c c')) = some r := h
    rw [br_some, nbeq, br_if] at h
    obtain ⟨h1, h2⟩ := h
    split at h2
    ·rename_i hle
     rw [nble] at hle
     exact go _ _ h1 (by simp only [binS, if_true]; rfl) (by rw [wr_t, Int.natCast_sub hle]) h2
    ·exact slow_t h2
   | eql =>
    have h : (@Bool.rec (fun _ => Option An) none (k (.b (Nat.beq n n'))) (Nat.beq c c')) = some r := h
    rw [br_some, nbeq] at h
    refine go _ _ h.1 (by simp only [binS, if_true]; rfl) ?_ h.2
    simp only [V.t, nbeq_d]
    by_cases e : n = n'
    ·subst e; simp
    ·have : ¬ (n : Int) = n' := by omega
     simp [e, this]
   | neq =>
    have h : (@Bool.rec (fun _ => Option An) none (k (.b (@Bool.rec (fun _ => Bool) true false (Nat.beq n n')))) (Nat.beq c c')) = some r := h
    rw [br_some, nbeq, br_not] at h
    refine go _ _ h.1 (by simp only [binS, if_true]; rfl) ?_ h.2
    simp only [V.t, nbeq_d]
    by_cases e : n = n'
    ·subst e; simp
    ·have : ¬ (n : Int) = n' := by omega
     simp [e, this]
   | lss =>
    have h : (@Bool.rec (fun _ => Option An) none (k (.b (Nat.blt n n'))) (Nat.beq c c')) = some r := h
    rw [br_some, nbeq] at h
    refine go _ _ h.1 (by simp only [binS, if_true]; rfl) ?_ h.2
    simp only [V.t, nblt_d, Int.ofNat_lt]
   | leq =>
    have h : (@Bool.rec (fun _ => Option An) none (k (.b (Nat.ble n n'))) (Nat.beq c c')) = some r := h
    rw [br_some, nbeq] at h
    refine go _ _ h.1 (by simp only [binS, if_true]; rfl) ?_ h.2
    simp only [V.t, nble_d, Int.ofNat_le]
   | gtr =>
    have h : (@Bool.rec (fun _ => Option An) none (k (.b (Nat.blt n' n))) (Nat.beq c c')) = some r := h
    rw [br_some, nbeq] at h
    refine go _ _ h.1 (by simp only [binS, if_true]; rfl) ?_ h.2
    simp only [V.t, nblt_d, Int.ofNat_lt]
   | geq =>
    have h : (@Bool.rec (fun _ => Option An) none (k (.b (Nat.ble n' n))) (Nat.beq c c')) = some r := h
    rw [br_some, nbeq] at h
    refine go _ _ h.1 (by simp only [binS, if_true]; rfl) ?_ h.2
    simp only [V.t, nble_d, Int.ofNat_le]
   | _ => exact slow_t h
  | _ => cases h
 | s l n =>
  have h : binC b op l n k = some r := h
  cases b with
  | s l' n' =>
   have h : sop op l n l' n' k = some r := h
   cases op with
   | add =>
    have h : (@Bool.rec (fun _ => Option An) none (k (sCat l n l' n')) (Nat.ble (l + l') 1000000000)) = some r := h
    rw [br_some, nble] at h
    refine ⟨.string (bstr l n), .string (bstr l' n'), _, _, by simp only [V.t], by simp only [V.t], ?_, sCat_t l n l' n', h.2⟩
    simp only [binS, bstr_size]
    rw [if_neg]
    have := h.1
    simp only [IntKind.max, IntKind.signed, IntKind.bits, if_true]
    omega
   | eql =>
    have h : k (.b (seq l n l' n')) = some r := h
    exact ⟨.string (bstr l n), .string (bstr l' n'), _, _, by simp only [V.t], by simp only [V.t], (by simp only [binS, bstr_eq]; rfl), by simp only [V.t], h⟩
   | neq =>
    have h : k (.b (@Bool.rec (fun _ => Bool) true false (seq l n l' n'))) = some r := h
    rw [br_not] at h
    exact ⟨.string (bstr l n), .string (bstr l' n'), _, _, by simp only [V.t], by simp only [V.t], (by simp only [binS, bstr_eq]; rfl), by simp only [V.t], h⟩
   | _ => cases h
  | _ => cases h
 | _ => cases h
theorem read_t {ag : Bool} {n : Nat} {cs : List V} {off : Nat} {k : V → Option An} (h : readK ag n cs off k = some r) : ∃ v, readAt ag n (V.tL cs) off = some v.t ∧ k v = some r := by
 unfold readK at h
 unfold readAt
 cases ag with
 | true =>
  have h : (@Bool.rec (fun _ => Option An) none (k (.agg (ktake n (kdrop off cs)))) (Nat.beq (klen (ktake n (kdrop off cs))) n)) = some r := h
  rw [br_some, nbeq, klen_eq, ktake_eq, kdrop_eq] at h
  refine ⟨_, ?_, h.2⟩
  rw [if_pos rfl, tL_drop, tL_take, tL_len, if_pos h.1]
  simp only [V.t]
 | false =>
  obtain ⟨v, h1, h2⟩ := sk_iff.1 h
  rw [nth_eq] at h1
  refine ⟨v, ?_, h2⟩
  rw [if_neg (by simp), tL_get, h1]; rfl
theorem load_t {ag : Bool} {n : Nat} {a : V} {k : V → Option An} (h : loadK a ag n S k = some r) : ∃ v, loadR ag n (abS S) a.t = some v.t ∧ k v = some r := by
 cases a with
 | ptr l off =>
  obtain ⟨bt, cs, h1, h2⟩ := gBox_iff.1 (show (gBox S l fun _ cs => readK ag n cs off k) = some r from h)
  obtain ⟨v, h3, h4⟩ := read_t h2
  exact ⟨v, by simp only [V.t, loadR, abS_lc, h1, Option.map_some, KO.t, h3], h4⟩
 | lptr sz xs i off =>
  obtain ⟨x, h1, h2⟩ := sk_iff.1 (show (sk (nth xs i) fun x => readK ag n x.cells off k) = some r from h)
  obtain ⟨v, h3, h4⟩ := read_t h2
  rw [nth_eq] at h1
  exact ⟨v, by simp only [V.t, loadR, tL_get, h1, Option.map_some, cells_t, h3], h4⟩
 | aptr l g i off =>
  obtain ⟨ro, g1, sz, e, xs, h1, h2⟩ := gArr_iff.1 (show (gArr S l fun _ g1 _ _ xs => @Bool.rec (fun _ => Option An) none (sk (nth xs i) fun x => readK ag n x.cells off k) (Nat.beq g g1)) = some r from h)
  rw [br_some, nbeq] at h2
  obtain ⟨rfl, h2⟩ := h2
  obtain ⟨x, h5, h6⟩ := sk_iff.1 h2
  obtain ⟨v, h3, h4⟩ := read_t h6
  rw [nth_eq] at h5
  exact ⟨v, by simp only [V.t, loadR, abS_lc, h1, Option.map_some, KO.t, tL_get, h5, if_true, cells_t, h3], h4⟩
 | _ => cases h
theorem store_t {n : Nat} {a x : V} {k : KS → Option An} (h : storeK n S a x k = some r) : ∃ S1, storeR n (abS S) a.t x.t = some (abS S1) ∧ k S1 = some r := by
 unfold storeK at h
 rw [br_some, nbeq, klen_eq] at h
 obtain ⟨hn, h⟩ := h
 unfold storeR
 rw [cells_t, tL_len, if_pos hn]
 cases a with
 | ptr l off =>
  obtain ⟨bt, cs, h1, h2⟩ := gBox_iff.1 (show (gBox S l fun bt cs => @Bool.rec (fun _ => Option An) none (@Bool.rec (fun _ => Option An) none (@Bool.rec (fun _ => Option An) none (k (kput S l (.box bt (ksplice cs off x.cells)))) (kall oneV x.cells)) (lvV x (Nat.div l 4294967296))) (Nat.ble (off + n) (klen cs))) = some r from h)
  simp only [br_some, nble, klen_eq, kall_eq, oneL_t, lv_t] at h2
  obtain ⟨h3, h4, h5, h6⟩ := h2
  refine ⟨_, ?_, h6⟩
  simp only [V.t, abS_lc, h1, Option.map_some, KO.t, tL_len]
  rw [if_pos ⟨h3, h4, h5⟩, abS_put]
  simp only [KO.t, tL_splice]
 | aptr l g i off =>
  obtain ⟨w, S1, h1, h2⟩ := fr_t (show (frV S x fun w S1 => gArr S1 l fun ro g1 sz e xs => @Bool.rec (fun _ => Option An) none (@Bool.rec (fun _ => Option An) (@Bool.rec (fun _ => Option An) none (@Bool.rec (fun _ => Option An) none (@Bool.rec (fun _ => Option An) none (@Bool.rec (fun _ => Option An) none (k (kput S1 l (.arr false g1 sz e (kset1 xs i w)))) (Nat.beq (klen w.cells) sz)) (Nat.beq n sz)) (Nat.beq off 0)) (Nat.blt i (klen xs))) none ro) (Nat.beq g g1)) = some r from h)
  simp only [gArr_iff, br_some, br_none, nbeq, nblt, klen_eq, kset1_eq] at h2
  obtain ⟨ro, g1, sz, e, xs, h3, h4, h5, h6, h7, h8, h9, h10⟩ := h2
  refine ⟨_, ?_, h10⟩
  have h3' : abS S1 (lc l) = some (.arr ro g1 sz e (V.tL xs)) := by rw [abS_lc, h3]; rfl
  simp only [V.t, h1, h3']
  rw [if_pos ⟨h4, h5, by rw [tL_len]; exact h6, h7, h8, by rw [cells_t, tL_len]; exact h9⟩, abS_put]
  simp only [KO.t, tL_set]
 | _ => cases h
theorem faddr_t {o : Nat} {a : V} {k : V → Option An} (h : faddrK a o k = some r) : ∃ v, faddrR o a.t = some v.t ∧ k v = some r := by
 cases a with
 | ptr l off => exact ⟨.ptr l (off + o), by simp only [V.t, faddrR], h⟩
 | lptr sz xs i off => exact ⟨.lptr sz xs i (off + o), by simp only [V.t, faddrR], h⟩
 | aptr l g i off => exact ⟨.aptr l g i (off + o), by simp only [V.t, faddrR], h⟩
 | _ => cases h
theorem idxOk_nat (j n : Nat) (h : j < n) : idxOk (j : Int) n = true := by
 simp only [idxOk, Bool.and_eq_true, decide_eq_true_eq]; omega
theorem iaddr_t {sz j : Nat} {c : Nat} {x : V} {k : V → Option An} (h : iaddrK x sz S j k = some r) : ∃ v, iaddrR sz (abS S) x.t (V.p c j).t = some v.t ∧ k v = some r := by
 cases x with
 | lst sz1 xs =>
  have h : (@Bool.rec (fun _ => Option An) none (@Bool.rec (fun _ => Option An) none (k (.lptr sz xs j 0)) (Nat.blt j (klen xs))) (Nat.beq sz sz1)) = some r := h
  simp only [br_some, nbeq, nblt, klen_eq] at h
  obtain ⟨h1, h2, h3⟩ := h
  exact ⟨_, by simp only [V.t, iaddrR, h1, if_true, tL_len, idxOk_nat j _ h2, cond_true, Int.toNat_natCast], h3⟩
 | own l g off n =>
  have h : (gArr S l fun _ g1 sz1 _ xs => @Bool.rec (fun _ => Option An) none (@Bool.rec (fun _ => Option An) none (@Bool.rec (fun _ => Option An) none (@Bool.rec (fun _ => Option An) none (k (.aptr l g (off + j) 0)) (Nat.blt j n)) (Nat.ble (off + n) (klen xs))) (Nat.beq sz sz1)) (Nat.beq g g1)) = some r := h
  simp only [gArr_iff, br_some, nbeq, nble, nblt, klen_eq] at h
  obtain ⟨ro, g1, sz1, e, xs, h1, h2, h3, h4, h5, h6⟩ := h
  refine ⟨_, ?_, h6⟩
  simp only [V.t, iaddrR, abS_lc, h1, Option.map_some, KO.t, tL_len]
  rw [if_pos ⟨h2, h3, h4⟩]
  simp only [idxOk_nat j _ h5, cond_true, Int.toNat_natCast]
 | _ => cases h
theorem newA_t {d : Option Nat} {sz e : Nat} {xs : List V} {k : V → KS → Option An} (h : newA L d sz e xs S k = some r) : ∃ v S1, newArrR L d sz e (V.tL xs) (abS S) = some (v.t, abS S1) ∧ k v S1 = some r := by
 cases d with
 | none => cases h
 | some d =>
  have h : (@Bool.rec (fun _ => Option An) none (@Bool.rec (fun _ => Option An) none (k (.own (L * 4294967296 + d) 0 0 (klen xs)) (kput S (L * 4294967296 + d) (.arr false 0 sz e xs))) (fresh S (L * 4294967296 + d))) (Nat.blt d 4294967296)) = some r := h
  simp only [br_some, nblt, fresh_iff] at h
  obtain ⟨h1, h2, h3⟩ := h
  refine ⟨_, _, ?_, h3⟩
  rw [lc_mk _ _ h1] at h2
  simp only [newArrR, h2, if_true, V.t, lc_mk _ _ h1, klen_eq, tL_len, abS_put, KO.t]
theorem newB_t {d : Option Nat} {bt : Nat} {cs : List V} {k : V → KS → Option An} (h : newB L d bt cs S k = some r) : ∃ v S1, newBoxR L d bt (V.tL cs) (abS S) = some (v.t, abS S1) ∧ k v S1 = some r := by
 cases d with
 | none => cases h
 | some d =>
  have h : (@Bool.rec (fun _ => Option An) none (@Bool.rec (fun _ => Option An) none (@Bool.rec (fun _ => Option An) none (@Bool.rec (fun _ => Option An) none (k (.ptr (L * 4294967296 + d) 0) (kput S (L * 4294967296 + d) (.box bt cs))) (kall oneV cs)) (lvL cs L)) (fresh S (L * 4294967296 + d))) (Nat.blt d 4294967296)) = some r := h
  simp only [br_some, nblt, fresh_iff, kall_eq, oneL_t, lvL_t] at h
  obtain ⟨h1, h2, h3, h4, h5⟩ := h
  refine ⟨_, _, ?_, h5⟩
  rw [lc_mk _ _ h1] at h2
  simp only [newBoxR, h2, h3, h4, Bool.and_self, if_true, V.t, lc_mk _ _ h1, abS_put, KO.t]
theorem el_t {x : V} {k : Option Nat → List V → Option An} (h : elK x S k = some r) : ∃ sy ys e, elemsOf (abS S) x.t = some (sy, V.tL ys, e) ∧ k sy ys = some r := by
 cases x with
 | lst sz xs => exact ⟨some sz, xs, 0, by simp only [V.t, elemsOf], h⟩
 | ns => exact ⟨none, [], 0, by simp only [V.t, elemsOf, V.tL], h⟩
 | own l g off n =>
  have h : (gArr S l fun _ g1 sz _ xs => @Bool.rec (fun _ => Option An) none (@Bool.rec (fun _ => Option An) none (k (some sz) (ktake n (kdrop off xs))) (Nat.ble (off + n) (klen xs))) (Nat.beq g g1)) = some r := h
  simp only [gArr_iff, br_some, nbeq, nble, klen_eq, ktake_eq, kdrop_eq] at h
  obtain ⟨ro, g1, sz, e, xs, h1, h2, h3, h4⟩ := h
  refine ⟨_, _, 1, ?_, h4⟩
  simp only [V.t, elemsOf, abS_lc, h1, Option.map_some, KO.t, tL_len]
  rw [if_pos ⟨h2, h3⟩, tL_drop, tL_take]
 | _ => cases h
theorem szOk_t {sy : Option Nat} {sz : Nat} (h : szOk sy sz = true) : sy = none ∨ sy = some sz := by
 cases sy with
 | none => exact .inl rfl
 | some x => exact .inr (by rw [(nbeq x sz).1 h])
theorem low_t (ho : OmT u8 om) (d : Option Nat) (e : Nat) : lowP om L d e = if appD u8 L e = true then (1, some 7000) else (L, d) := by
 unfold lowP appD
 rw [ho, br_and]
 simp only [if_true]
 rw [kin_eq, ← nble_d]
 cases u8.b.contains e && Nat.ble 2 L <;> rfl
theorem appE_t (ho : OmT u8 om) {d : Option Nat} {e sz : Nat} {x : V} {ys : List V} {y : T} {sy : Option Nat} {ee : Nat} {k : V → KS → Option An} (hy : elemsOf (abS S) y = some (sy, V.tL ys, ee)) (hs : sy = none ∨ sy = some sz)
  (h : appE x u8 L d S e sz ys k = some r) : ∃ v S1, appR om L d (abS S) e sz x.t y = some (v.t, abS S1) ∧ k v S1 = some r := by
 have hem : (V.tL ys).isEmpty = ys.isEmpty := by cases ys <;> simp only [V.tL] <;> rfl
 unfold appR
 simp only [hy, if_pos hs]
 cases x with
 | ns =>
  have h : (@Bool.rec (fun _ => Option An) (@Bool.rec (fun _ => Option An) none (@Bool.rec (fun _ => Option An) (newA L d sz e ys S k) (newA 1 (some 7000) sz e ys S k) (appD u8 L e)) (Nat.ble (klen ys) 1000000000)) (k .ns S) (kempty ys)) = some r := h
  simp only [V.t, low_t ho, hem, maxRow, tL_len]
  rw [br_if, kempty_eq] at h
  split at h
  ·rename_i h1
   rw [if_pos h1]
   exact ⟨.ns, S, by simp only [V.t], h⟩
  ·rename_i h1
   rw [if_neg h1]
   rw [br_some, nble, klen_eq, br_if] at h
   rw [if_pos h.1]
   obtain ⟨h2, h⟩ := h
   split at h
   ·rename_i h3; simp only [if_pos h3]; exact newA_t h
   ·rename_i h3; simp only [if_neg h3]; exact newA_t h
 | own l g off n =>
  have h : (gArr S l fun ro g1 sz1 e1 xs => @Bool.rec (fun _ => Option An) none (@Bool.rec (fun _ => Option An) none (@Bool.rec (fun _ => Option An) (@Bool.rec (fun _ => Option An) (@Bool.rec (fun _ => Option An) none (@Bool.rec (fun _ => Option An) none (@Bool.rec (fun _ => Option An) none (@Bool.rec (fun _ => Option An) none
   (k (.own l (g + 1) 0 (n + klen ys)) (kput S l (.arr false (g + 1) sz e (kapp (ktake n xs) ys)))) (Nat.ble (n + klen ys) 1000000000)) (Nat.beq e1 e)) (Nat.beq sz1 sz)) (Nat.beq off 0)) none ro) (k (.own l g off n) S) (kempty ys)) (Nat.ble n (klen xs))) (Nat.beq g g1)) = some r := h
  simp only [gArr_iff, br_some, nbeq, nble, klen_eq] at h
  obtain ⟨ro, g1, sz1, e1, xs, h1, h2, h3, h⟩ := h
  simp only [V.t, abS_lc, h1, Option.map_some, KO.t, tL_len, hem, maxRow]
  rw [if_pos ⟨h2, h3⟩]
  rw [br_if, kempty_eq] at h
  split at h
  ·rename_i h4
   rw [if_pos h4]
   exact ⟨_, _, by simp only [V.t], h⟩
  ·rename_i h4
   rw [if_neg h4]
   simp only [br_none, br_some, nbeq, nble, ktake_eq, kapp_eq] at h
   obtain ⟨h5, h6, h7, h8, h9, h10⟩ := h
   rw [if_pos ⟨h5, h6, h7, h8, h9⟩]
   exact ⟨_, _, by simp only [V.t, abS_put, KO.t, tL_app, tL_take], h10⟩
 | _ => cases h
theorem bnd_t {x : Option O} {dflt : Nat} {k : Nat → Option An} (h : bnd x s dflt k = some r) : ∃ n : Nat, bndO s.t dflt (oO x) = some (n : Int) ∧ k n = some r := by
 cases x with
 | none => exact ⟨dflt, rfl, h⟩
 | some x =>
  obtain ⟨c, n, h1, h2⟩ := onP_iff.1 (show (onP (eO s x) fun _ n => k n) = some r from h)
  exact ⟨n, by simp only [oO, bndO, eO_t, h1, V.t], h2⟩
theorem oO_some (x : Option O) : (oO x).isSome = x.isSome := by cases x <;> rfl
theorem cut_t {lo hi mx : Option O} {n : Nat} {mk : Nat → Nat → V} {mk' : Nat → Nat → T} {k : V → Option An} (hm : ∀ a b, a ≤ b → b ≤ n → mk' a b = (mk a b).t) (h : cutK s lo hi mx n mk k = some r) : ∃ v, cutT s.t (oO lo) (oO hi) (oO mx) n mk' = some v.t ∧ k v = some r := by
 obtain ⟨a, h1, h⟩ := bnd_t h
 obtain ⟨b, h2, h⟩ := bnd_t h
 obtain ⟨m, h3, h⟩ := bnd_t h
 simp only [br_some, nble] at h
 obtain ⟨h4, h5, h6, h7, h8⟩ := h
 rw [br_if] at h7
 refine ⟨_, ?_, h8⟩
 unfold cutT
 simp only [h1, h2, h3, oO_some]
 rw [if_pos]
 ·simp only [Int.toNat_natCast]; rw [hm a b h4 (by omega)]
 ·refine ⟨by omega, by omega, by omega, by omega, fun hmx => ?_⟩
  rw [if_pos hmx] at h7; exact h7
theorem slc_t {sz : Nat} {x : V} {lo hi mx : Option O} {k : V → Option An} (h : slcK x sz s S lo hi mx k = some r) : ∃ v, slcR sz s.t (abS S) (oO lo) (oO hi) (oO mx) x.t = some v.t ∧ k v = some r := by
 cases x with
 | lst sz1 xs =>
  have h : (@Bool.rec (fun _ => Option An) none (cutK s lo hi mx (klen xs) (fun l h => .lst sz (kdrop l (ktake h xs))) k) (Nat.beq sz sz1)) = some r := h
  rw [br_some, nbeq, klen_eq] at h
  simp only [V.t, slcR, if_pos h.1, tL_len]
  exact cut_t (fun a b _ _ => by simp only [V.t, kdrop_eq, ktake_eq, tL_take, tL_drop]) h.2
 | own c g off n =>
  have h : (gArr S c fun _ g1 sz1 _ _ => @Bool.rec (fun _ => Option An) none (@Bool.rec (fun _ => Option An) none (cutK s lo hi mx n (fun l h => .own c g (Nat.add off l) (Nat.sub h l)) k) (Nat.beq sz sz1)) (Nat.beq g g1)) = some r := h
  simp only [gArr_iff, br_some, nbeq] at h
  obtain ⟨ro, g1, sz1, e, xs, h1, h2, h3, h⟩ := h
  simp only [V.t, slcR, abS_lc, h1, Option.map_some, KO.t]
  rw [if_pos ⟨h2, h3⟩]
  exact cut_t (fun a b _ _ => by simp only [V.t]; rfl) h
 | ns =>
  have h : (@Bool.rec (fun _ => Option An) none (@Bool.rec (fun _ => Option An) none (@Bool.rec (fun _ => Option An) none (cutK s lo hi mx 0 (fun _ _ => .ns) k) hi.isSome) mx.isNone) lo.isNone) = some r := h
  simp only [br_some] at h
  obtain ⟨h1, h2, h3, h⟩ := h
  have e1 : (oO lo).isNone = true := by cases lo <;> first | rfl | cases h1
  have e2 : (oO mx).isNone = true := by cases mx <;> first | rfl | cases h2
  have e3 : (oO hi).isSome = true := by cases hi <;> first | rfl | cases h3
  simp only [V.t, slcR]
  rw [if_pos ⟨by decide, by rw [e1, e2, e3]; rfl⟩]
  exact cut_t (fun a b _ _ => by simp only [V.t]) h
 | _ => cases h
theorem fill_t {ps : List (Nat × Nat)} : ∀ (q : List (Nat × O)) {cs : List V} {k : List V → Option An}, fillK q ps s cs k = some r → ∃ ds, fillT ps s.t (V.tL cs) (q.map fun p => (p.1, p.2.t')) = some (V.tL ds) ∧ k ds = some r
 | [], cs, k, h => ⟨cs, rfl, h⟩
 | e :: q, cs, k, h => by
  have h : (@Option.rec (Nat × Nat) (fun _ => Option An) none (fun p => @Bool.rec (fun _ => Option An) none (@Bool.rec (fun _ => Option An) none (@Bool.rec (fun _ => Option An) none (fillK q ps s (ksplice cs p.1 (eO s e.2).cells) k) (kall oneV (eO s e.2).cells)) (Nat.ble (p.1 + p.2) (klen cs))) (Nat.beq (klen (eO s e.2).cells) p.2)) (nth ps e.1)) = some r := h
  simp only [op_some, br_some, nbeq, nble, klen_eq, nth_eq, kall_eq, oneL_t] at h
  obtain ⟨⟨off, n⟩, h1, h2, h3, h4, h⟩ := h
  obtain ⟨ds, h5, h6⟩ := fill_t q h
  refine ⟨ds, ?_, h6⟩
  simp only [List.map_cons, fillT, h1, eO_t, cells_t, tL_len]
  simp only [] at h2 h3
  rw [if_pos ⟨h2, h3, h4⟩, ← tL_splice]
  exact h5
theorem peq_t {x y : V} {k : Bool → Option An} (h : peqK x y k = some r) : ∃ q, peqR x.t y.t = some q ∧ k q = some r := by
 cases x with
 | ptr l o =>
  have h : peq1 y l o k = some r := h
  cases y with
  | ptr l' o' =>
   have h : (@Bool.rec (fun _ => Option An) none (@Bool.rec (fun _ => Option An) none (k true) (Nat.beq o o')) (Nat.beq l l')) = some r := h
   simp only [br_some, nbeq] at h
   obtain ⟨e1, e2, h5⟩ := h
   exact ⟨true, by simp [V.t, peqR, ptrEq, e1, e2], h5⟩
  | np => exact ⟨false, by simp only [V.t, peqR, ptrEq], h⟩
  | _ => cases h
 | np =>
  have h : peq2 y k = some r := h
  cases y with
  | ptr l' o' => exact ⟨false, by simp only [V.t, peqR, ptrEq], h⟩
  | np => exact ⟨true, by simp only [V.t, peqR], h⟩
  | _ => cases h
 | aptr l g i off =>
  have h : peq3 y k = some r := h
  cases y with
  | np => exact ⟨false, by simp only [V.t, peqR, ptrEq], h⟩
  | _ => cases h
 | lptr sz xs i off =>
  have h : peq3 y k = some r := h
  cases y with
  | np => exact ⟨false, by simp only [V.t, peqR, ptrEq], h⟩
  | _ => cases h
 | _ => cases h
end
end Go.TM
