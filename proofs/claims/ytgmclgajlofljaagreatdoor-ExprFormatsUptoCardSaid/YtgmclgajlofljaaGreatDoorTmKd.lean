/- The fast evaluator is sound: one operation, each. -/
import Derived.Test.YtgmclgajlofljaaGreatDoorTmKc
set_option linter.all false
namespace Go.TM
open Go
section
variable {call : CallK} {cF : CallF} {u8 : Cf} {om : FuncId → List Nat} {L : Nat} {S : KS} {s : SL} {r : An}
theorem callR_t (hc : CallT call cF) (ho : OmT u8 om) {d : Option Nat} {f : V} {args : List V} {k : V → KS → Option An} (h : callW f call u8 L d S args k = some r) :
  ∃ v S1, callR cF om L d (abS S) f.t (V.tL args) = some (v.t, abS S1) ∧ k v S1 = some r := by
 cases f with
 | fn g =>
  obtain ⟨v, S1, e, h1, h2⟩ := go_t hc ho (show goK call u8 L d S g args [] k = some r from h)
  refine ⟨v, S1, ?_, h2⟩
  simp only [V.tL] at h1
  simp only [callR, callT, V.t, h1, Option.map_some]
 | clo g cs =>
  have h : (@Bool.rec (fun _ => Option An) (goK call u8 L d S (Nat.sub g 1000000000) (kapp cs args) [] k) (goK call u8 L d S g args cs k) (Nat.blt g 1000000000)) = some r := h
  cases hb : Nat.blt g 1000000000 with
  | true =>
   rw [hb] at h
   obtain ⟨v, S1, e, h1, h2⟩ := go_t hc ho (show goK call u8 L d S g args cs k = some r from h)
   exact ⟨v, S1, by simp only [callR, callT, V.t, hb, cond_true, h1, Option.map_some], h2⟩
  | false =>
   rw [hb] at h
   obtain ⟨v, S1, e, h1, h2⟩ := go_t hc ho (show goK call u8 L d S (Nat.sub g 1000000000) (kapp cs args) [] k = some r from h)
   rw [kapp_eq, tL_app] at h1
   simp only [V.tL] at h1
   exact ⟨v, S1, by simp only [callR, callT, V.t, hb, cond_false, h1, Option.map_some], h2⟩
 | _ => cases h
theorem x_t (hc : CallT call cF) (ho : OmT u8 om) {d : Option Nat} {y : Y} {k : V → KS → Option An} (h : xK y call u8 L d s S k = some r) :
  ∃ v S1, evX cF om L d s.t (abS S) y.x = some (v.t, abS S1) ∧ k v S1 = some r := by
 cases y with
 | mv x => exact ⟨_, _, by simp only [Y.x, evX, eO_t, Option.map_some], (show k (eO s x) S = some r from h)⟩
 | pick c a b =>
  obtain ⟨q, h1, h2⟩ := onB_iff.1 (show (onB (eO s c) fun q => k (@Bool.rec (fun _ => V) (eO s b) (eO s a) q) S) = some r from h)
  exact ⟨_, _, by simp only [Y.x, evX, eO_t, h1, V.t]; cases q <;> rfl, h2⟩
 | bin op x y =>
  obtain ⟨a, b, v, w, h1, h2, h3, h4, h5⟩ := bin_t (show (binK (eO s x) op (eO s y) fun v => k v S) = some r from h)
  exact ⟨w, S, by simp only [Y.x, evX, eO_t, h1, h2, h3, Option.map_some, h4], h5⟩
 | beq ne x y =>
  have h : (onB (eO s x) fun a => onB (eO s y) fun c => k (.b (@Bool.rec (fun _ => Bool) (@Bool.rec (fun _ => Bool) (@Bool.rec (fun _ => Bool) true false c) c a) (@Bool.rec (fun _ => Bool) c (@Bool.rec (fun _ => Bool) true false c) a) ne)) S) = some r := h
  simp only [onB_iff] at h
  obtain ⟨a, h1, c, h2, h3⟩ := h
  refine ⟨_, _, ?_, h3⟩
  simp only [Y.x, evX, eO_t, h1, h2, V.t]
  cases ne <;> cases a <;> cases c <;> rfl
 | not x =>
  have h : (onB (eO s x) fun a => k (.b (@Bool.rec (fun _ => Bool) true false a)) S) = some r := h
  simp only [onB_iff, br_not] at h
  obtain ⟨a, h1, h2⟩ := h
  exact ⟨_, _, by simp only [Y.x, evX, eO_t, h1, V.t], h2⟩
 | neg x =>
  have h : (vInt (eO s x) fun c n => @Bool.rec (fun _ => Option An) none (k (vI c ((kd c).wrap (0 - n))) S) (okc c)) = some r := h
  obtain ⟨c, n, h1, h2⟩ := vInt_t h
  rw [br_some] at h2
  exact ⟨_, _, by simp only [Y.x, evX, eO_t, h1, vI_t], h2.2⟩
 | lenS x =>
  obtain ⟨l, n, h1, h2⟩ := onS_iff.1 (show (onS (eO s x) fun l _ => k (.p 9223372036854775808 l) S) = some r from h)
  exact ⟨_, _, by simp only [Y.x, evX, eO_t, h1, V.t, bstr_size]; rfl, h2⟩
 | idxS x i =>
  have h : (onS (eO s x) fun l n => onP (eO s i) fun _ j => @Bool.rec (fun _ => Option An) none (k (.p 256 (n / 256 ^ j % 256)) S) (Nat.blt j l)) = some r := h
  simp only [onS_iff, onP_iff, br_some, nblt] at h
  obtain ⟨l, n, h1, c, j, h2, h3, h4⟩ := h
  exact ⟨_, _, by simp only [Y.x, evX, eO_t, h1, h2, V.t, bstr_idx _ _ _ h3, Option.map_some]; rfl, h4⟩
 | cutS x lo hi =>
  have h : (onS (eO s x) fun len n => bnd lo s 0 fun l => bnd hi s len fun h => @Bool.rec (fun _ => Option An) none (@Bool.rec (fun _ => Option An) none (k (.s (h - l) (n / 256 ^ l % 256 ^ (h - l))) S) (Nat.ble h len)) (Nat.ble l h)) = some r := h
  obtain ⟨len, n, h1, h2⟩ := onS_iff.1 h
  obtain ⟨a, h3, h2⟩ := bnd_t h2
  obtain ⟨b, h4, h2⟩ := bnd_t h2
  simp only [br_some, nble] at h2
  obtain ⟨h5, h6, h7⟩ := h2
  refine ⟨_, _, ?_, h7⟩
  simp only [Y.x, evX, eO_t, h1, V.t]
  have : cutSR s.t (bstr len n) (oO lo) (oO hi) = some (.sc (.string (bstr (b - a) (n / 256 ^ a % 256 ^ (b - a))))) := by
   unfold cutSR
   simp only [bstr_size]
   have h3' : bndO s.t 0 (oO lo) = some (a : Int) := h3
   rw [h3', h4]
   simp only []
   rw [if_pos ⟨by omega, by omega, by omega⟩]
   simp only [Int.toNat_natCast, bstr_cut _ _ _ _ h5 h6]
  rw [this]; rfl
 | cv c x =>
  have h : (cvK (eO s x) c fun v => k v S) = some r := h
  cases hx : eO s x with
  | p c' n =>
   rw [hx] at h
   exact ⟨_, _, by simp only [Y.x, evX, eO_t, hx, V.t, wr_t], (show k (wr c n) S = some r from h)⟩
  | m c' n =>
   rw [hx] at h
   have h : (@Bool.rec (fun _ => Option An) none (k (vI c ((kd c).wrap (Int.negSucc n))) S) (okc c)) = some r := h
   rw [br_some] at h
   exact ⟨_, _, by simp only [Y.x, evX, eO_t, hx, V.t, vI_t], h.2⟩
  | _ => rw [hx] at h; cases h
 | i2s x =>
  obtain ⟨c, n, h1, h2⟩ := onP_iff.1 (show (onP (eO s x) fun _ n => @Bool.rec (fun _ => Option An) none (k (.s 1 n) S) (Nat.blt n 128)) = some r from h)
  rw [br_some, nblt] at h2
  refine ⟨_, _, ?_, h2.2⟩
  simp only [Y.x, evX, eO_t, h1, V.t]
  have : Utf8.encode (n : Int) = bstr 1 n := utf8_small n h2.1
  rw [this]
 | mm mx x y =>
  have h : (onP (eO s x) fun c a => onP (eO s y) fun _ b => k (.p c (@Bool.rec (fun _ => Nat) (@Bool.rec (fun _ => Nat) a b (Nat.blt b a)) (@Bool.rec (fun _ => Nat) a b (Nat.blt a b)) mx)) S) = some r := h
  simp only [onP_iff] at h
  obtain ⟨c, a, h1, c', b, h2, h3⟩ := h
  refine ⟨_, _, ?_, h3⟩
  simp only [Y.x, evX, eO_t, h1, h2, V.t, br_if, nblt]
  cases mx with
  | true =>
   simp only [cond_true, if_true]
   by_cases hab : a < b
   ·rw [if_pos hab, if_pos (by omega)]
   ·rw [if_neg hab, if_neg (by omega)]
  | false =>
   simp only [cond_false]
   by_cases hab : b < a
   ·rw [if_pos (by omega), if_neg (by simp), if_pos hab]
   ·rw [if_neg (by omega), if_neg (by simp), if_neg hab]
 | len x =>
  have h : (lenK (eO s x) fun n => k (.p 9223372036854775808 n) S) = some r := h
  cases hx : eO s x with
  | lst sz xs =>
   rw [hx] at h
   exact ⟨_, _, by simp only [Y.x, evX, eO_t, hx, V.t, tL_len, klen_eq]; rfl, (show k (.p 9223372036854775808 (klen xs)) S = some r from h)⟩
  | own l g off n =>
   rw [hx] at h
   exact ⟨_, _, by simp only [Y.x, evX, eO_t, hx, V.t]; rfl, (show k (.p 9223372036854775808 n) S = some r from h)⟩
  | ns =>
   rw [hx] at h
   exact ⟨.p 9223372036854775808 0, S, by simp only [Y.x, evX, eO_t, hx, V.t, and_self, if_true]; rfl, h⟩
  | _ => rw [hx] at h; cases h
 | capn x =>
  have h : (capK (eO s x) (k (.p 9223372036854775808 0) S)) = some r := h
  cases hx : eO s x with
  | ns =>
   rw [hx] at h
   exact ⟨.p 9223372036854775808 0, S, by simp only [Y.x, evX, eO_t, hx, V.t, and_self, if_true]; rfl, h⟩
  | _ => rw [hx] at h; cases h
 | load ag n a =>
  obtain ⟨v, h1, h2⟩ := load_t (show (loadK (eO s a) ag n S fun v => k v S) = some r from h)
  exact ⟨_, _, by simp only [Y.x, evX, eO_t, h1, Option.map_some], h2⟩
 | store n a v =>
  obtain ⟨S1, h1, h2⟩ := store_t (show (storeK n S (eO s a) (eO s v) fun S1 => k (.tup []) S1) = some r from h)
  exact ⟨.tup [], S1, by simp only [Y.x, evX, eO_t, h1, Option.map_some, V.t, V.tL], h2⟩
 | faddr o a =>
  obtain ⟨v, h1, h2⟩ := faddr_t (show (faddrK (eO s a) o fun v => k v S) = some r from h)
  exact ⟨_, _, by simp only [Y.x, evX, eO_t, h1, Option.map_some], h2⟩
 | field o n ag x =>
  obtain ⟨cs, h1, h2⟩ := onAgg_iff.1 (show (onAgg (eO s x) fun cs => readK ag n cs o fun v => k v S) = some r from h)
  obtain ⟨v, h3, h4⟩ := read_t h2
  exact ⟨_, _, by simp only [Y.x, evX, eO_t, h1, V.t, h3, Option.map_some], h4⟩
 | aidx ag sz n x i =>
  have h : (onAgg (eO s x) fun cs => onP (eO s i) fun _ j => @Bool.rec (fun _ => Option An) none (readK ag sz cs (Nat.mul j sz) fun v => k v S) (Nat.blt j n)) = some r := h
  obtain ⟨cs, h1, h⟩ := onAgg_iff.1 h
  obtain ⟨c, j, h2, h⟩ := onP_iff.1 h
  rw [br_some, nblt] at h
  obtain ⟨v, h3, h4⟩ := read_t h.2
  refine ⟨_, _, ?_, h4⟩
  have hio : idxOk ((j : Nat) : Int) n = true := by
   have := h.1
   unfold idxOk
   simp
   omega
  simp only [Y.x, evX, eO_t, h1, h2, V.t, hio, cond_true, Int.toNat_natCast]
  have h3 : readAt ag sz (V.tL cs) (j * sz) = some v.t := h3
  rw [h3]; rfl
 | iaddr sz x i =>
  obtain ⟨c, j, h1, h2⟩ := onP_iff.1 (show (onP (eO s i) fun _ j => iaddrK (eO s x) sz S j fun v => k v S) = some r from h)
  obtain ⟨v, h3, h4⟩ := iaddr_t (c := c) h2
  exact ⟨_, _, by simp only [Y.x, evX, eO_t, h1, h3, Option.map_some], h4⟩
 | iaddrA len sz x i =>
  have h : (onP (eO s i) fun _ n => onPtr (eO s x) fun l off => @Bool.rec (fun _ => Option An) none (k (.ptr l (off + n * sz)) S) (Nat.blt n len)) = some r := h
  simp only [onP_iff, onPtr_iff, br_some, nblt] at h
  obtain ⟨c, n, h1, l, off, h2, h3, h4⟩ := h
  exact ⟨_, _, by simp only [Y.x, evX, eO_t, h1, h2, V.t, iaddrAR, idxOk_nat n len h3, cond_true, Option.map_some, Int.toNat_natCast], h4⟩
 | mk sz e z l c =>
  have h : (onP (eO s l) fun _ n => onP (eO s c) fun _ m => @Bool.rec (fun _ => Option An) none (@Bool.rec (fun _ => Option An) none (newA L d sz e (krep n z) S k) (Nat.ble m 1000000000)) (Nat.ble n m)) = some r := h
  simp only [onP_iff, br_some, nble] at h
  obtain ⟨c1, n, h1, c2, m, h2, h3, h4, h5⟩ := h
  obtain ⟨v, S1, h6, h7⟩ := newA_t h5
  refine ⟨v, S1, ?_, h7⟩
  simp only [Y.x, evX, eO_t, h1, h2, V.t, mkR]
  have hm : (0 : Int) ≤ (n : Int) ∧ (n : Int) ≤ (m : Int) ∧ (m : Int) ≤ ((maxRow : Nat) : Int) := by
   have : maxRow = 1000000000 := rfl
   omega
  rw [if_pos hm]
  simp only [Int.toNat_natCast]
  rw [← h6, krep_eq, tL_map, List.map_replicate]
 | bsl e sz ps =>
  have hom : om 1000000002 = u8.om 1000000002 := by rw [ho]; rfl
  obtain ⟨us, S1, h1, h2⟩ := frL_t (eL ps s) (show (frL (eL ps s) S fun us S1 => @Bool.rec (fun _ => Option An) none (@Bool.rec (fun _ => Option An) (newA L d sz e us S1 k) (k (.lst sz us) S1) (kin (Nat.add e (Nat.mul 1000000 L)) (u8.om 1000000002))) (kall (fun w : V => Nat.beq (klen w.cells) sz) us)) = some r from h)
  rw [br_some] at h2
  obtain ⟨h2, h3⟩ := h2
  obtain ⟨v, S2, h4, h5⟩ : ∃ v S2, bornR ((u8.om 1000000002).contains (e + 1000000 * L)) L d sz e (V.tL us) (abS S1) = some (v.t, abS S2) ∧ k v S2 = some r := by
   rw [br_if, kin_eq] at h3
   unfold bornR
   split at h3
   ·rename_i hq
    have hq : ((u8.om 1000000002).contains (e + 1000000 * L)) = true := hq
    rw [if_pos hq]
    exact ⟨_, S1, by simp only [V.t], h3⟩
   ·rename_i hq
    have hq : ¬ ((u8.om 1000000002).contains (e + 1000000 * L)) = true := hq
    rw [if_neg hq]
    exact newA_t h3
  refine ⟨v, S2, ?_, h5⟩
  simp only [Y.x, evX, eL_t, bslR, h1, hom]
  rw [if_pos, h4]
  rw [tL_map, List.all_map]
  rw [kall_eq] at h2
  rw [List.all_eq_true] at h2 ⊢
  intro w hw
  have := h2 w hw
  rw [nbeq, klen_eq] at this
  simp only [Function.comp, decide_eq_true_eq, cells_t, tL_len]
  exact this
 | app e sz x y =>
  obtain ⟨sy, ys, ee, h1, h2⟩ := el_t (show (elK (eO s y) S fun sy ys => @Bool.rec (fun _ => Option An) none (appE (eO s x) u8 L d S e sz ys k) (szOk sy sz)) = some r from h)
  rw [br_some] at h2
  obtain ⟨v, S1, h3, h4⟩ := appE_t ho h1 (szOk_t h2.1) h2.2
  exact ⟨v, S1, by simp only [Y.x, evX, eO_t, h3], h4⟩
 | cpy x y =>
  obtain ⟨sy, ys, ee, h1, h2⟩ := el_t (show (elK (eO s y) S fun sy ys => cpyW (eO s x) S sy ys k) = some r from h)
  cases hx : eO s x with
  | own l g off n =>
   rw [hx] at h2
   have h2 : (gArr S l fun ro g1 sz1 e xs => @Bool.rec (fun _ => Option An) (@Bool.rec (fun _ => Option An) none (@Bool.rec (fun _ => Option An) none (@Bool.rec (fun _ => Option An) none (@Bool.rec (fun _ => Option An) none
    (k (.p 9223372036854775808 (@Bool.rec (fun _ => Nat) n (klen ys) (Nat.ble (klen ys) n))) (kput S l (.arr false g 1 e (ksplice xs off (ktake (@Bool.rec (fun _ => Nat) n (klen ys) (Nat.ble (klen ys) n)) ys))))) (Nat.ble (off + n) (klen xs))) (szOk sy 1)) (Nat.beq sz1 1)) (Nat.beq g g1)) none ro) = some r := h2
   simp only [gArr_iff, br_some, br_none, nbeq, nble, klen_eq] at h2
   obtain ⟨ro, g1, sz1, e, xs, h3, h4, h5, h6, h7, h8, h9⟩ := h2
   have hm : (@Bool.rec (fun _ => Nat) n ys.length (Nat.ble ys.length n)) = min ys.length n := by
    rw [br_if]; simp only [nble]; split <;> omega
   rw [hm] at h9
   refine ⟨_, _, ?_, h9⟩
   simp only [Y.x, evX, eO_t, hx, V.t, cpyR, h1, abS_lc, h3, Option.map_some, KO.t, tL_len]
   rw [if_pos ⟨h4, h5, h6, szOk_t h7, h8⟩, abS_put]
   simp only [KO.t, tL_splice, ktake_eq, tL_take]
   rfl
  | _ => rw [hx] at h2; cases h2
 | slc sz x lo hi mx =>
  obtain ⟨v, h1, h2⟩ := slc_t (show (slcK (eO s x) sz s S lo hi mx fun v => k v S) = some r from h)
  exact ⟨_, _, by simp only [Y.x, evX, eO_t, h1, Option.map_some], h2⟩
 | bld ps z parts =>
  obtain ⟨ds, h1, h2⟩ := fill_t parts (show (fillK parts ps s z fun cs => k (.agg cs) S) = some r from h)
  exact ⟨.agg ds, S, by simp only [Y.x, evX, h1, Option.map_some, V.t], h2⟩
 | alloc e z =>
  obtain ⟨v, S1, h1, h2⟩ := newB_t (show newB L d e z S k = some r from h)
  exact ⟨v, S1, by simp only [Y.x, evX, h1], h2⟩
 | box e x =>
  obtain ⟨v, S1, h1, h2⟩ := newB_t (show newB L d e (eO s x).cells S k = some r from h)
  exact ⟨v, S1, by simp only [Y.x, evX, eO_t, cells_t, h1], h2⟩
 | s2b x =>
  obtain ⟨l, n, h1, h2⟩ := onS_iff.1 (show (onS (eO s x) fun len n => k (.lst 1 (byL len n)) S) = some r from h)
  exact ⟨_, _, by simp only [Y.x, evX, eO_t, h1, V.t, bytesT_bstr], h2⟩
 | b2s x =>
  obtain ⟨sy, ys, ee, h1, h2⟩ := el_t (show (elK (eO s x) S fun sy xs => @Option.rec Nat (fun _ => Option An) none (fun z => @Bool.rec (fun _ => Option An) none (pkBk xs fun n => k (.s (klen xs) n) S) (Nat.beq z 1)) sy) = some r from h)
  simp only [op_some, br_some, nbeq, pkBk] at h2
  obtain ⟨z, rfl, rfl, h2⟩ := h2
  cases hp : pkB ys with
  | none => rw [hp] at h2; cases h2
  | some n =>
   rw [hp] at h2
   refine ⟨_, _, ?_, (show k (.s (klen ys) n) S = some r from h2)⟩
   simp only [Y.x, evX, eO_t, b2sR, h1, pkB_t ys hp, Option.map_some, V.t, klen_eq]
   rfl
 | mkf f caps => exact ⟨_, _, by simp only [Y.x, evX, eL_t, Option.map_some, V.t], (show k (.clo f (eL caps s)) S = some r from h)⟩
 | ext x j =>
  obtain ⟨ts, h1, h2⟩ := onTup_iff.1 (show (onTup (eO s x) fun ts => sk (nth ts j) fun v => k v S) = some r from h)
  obtain ⟨v, h3, h4⟩ := sk_iff.1 h2
  rw [nth_eq] at h3
  exact ⟨_, _, by simp only [Y.x, evX, eO_t, h1, V.t, tL_get, h3, Option.map_some], h4⟩
 | call f args =>
  obtain ⟨v, S1, h1, h2⟩ := callR_t hc ho (show callW (eO s f) call u8 L d S (eL args s) k = some r from h)
  exact ⟨v, S1, by simp only [Y.x, evX, eO_t, eL_t, h1], h2⟩
 | nck x =>
  obtain ⟨l, off, h1, h2⟩ := onPtr_iff.1 (show (onPtr (eO s x) fun l off => k (.ptr l off) S) = some r from h)
  exact ⟨_, _, by simp only [Y.x, evX, eO_t, h1, V.t], h2⟩
 | bad => cases h
 | peq ng x y =>
  have h : (peqK (eO s x) (eO s y) fun r => k (.b (@Bool.rec (fun _ => Bool) r (@Bool.rec (fun _ => Bool) true false r) ng)) S) = some r := h
  obtain ⟨q, h1, h2⟩ := peq_t h
  refine ⟨_, _, ?_, h2⟩
  simp only [Y.x, evX, eO_t, h1, Option.map_some, V.t]
  cases q <;> cases ng <;> rfl
 | toU x =>
  have h : (onPtr (eO s x) fun l off => gBox S l fun _ cs => @Bool.rec (fun _ => Option An) none (k (.ptr l off) S) (Nat.blt off (klen cs))) = some r := h
  simp only [onPtr_iff, gBox_iff, br_some, nblt, klen_eq] at h
  obtain ⟨l, off, h1, bt, cs, h2, h3, h4⟩ := h
  exact ⟨_, _, by simp only [Y.x, evX, eO_t, h1, V.t, toUR, abS_lc, h2, Option.map_some, KO.t, tL_len, h3, if_true], h4⟩
 | ofU u n x =>
  have h : (onPtr (eO s x) fun l off => gBox S l fun bt cs => @Bool.rec (fun _ => Option An) none (@Bool.rec (fun _ => Option An) none (@Bool.rec (fun _ => Option An) none (@Bool.rec (fun _ => Option An) none (k (.ptr l off) S) (Nat.blt 0 (klen cs))) (Nat.blt bt 1000000)) (Nat.beq off 0)) (kin (ofK bt (klen cs) n) u)) = some r := h
  have hk : ∀ bt m, ofK bt m n = ofC bt m n := by
   intro bt m
   show (@Bool.rec (fun _ => Nat) (Nat.add bt (Nat.mul 1000000 m)) bt (Nat.beq m n)) = _
   rw [br_if]
   unfold ofC
   by_cases h : m = n
   ·rw [if_pos h, if_pos (by rw [nbeq]; exact h)]
   ·rw [if_neg h, if_neg (by rw [nbeq]; exact h)]; rfl
  simp only [onPtr_iff, gBox_iff, br_some, nbeq, nblt, klen_eq, kin_eq, hk] at h
  obtain ⟨l, off, h1, bt, cs, h2, h3, h4, h5, h6, h7⟩ := h
  refine ⟨_, _, ?_, h7⟩
  simp only [Y.x, evX, eO_t, h1, V.t, ofUR, abS_lc, h2, Option.map_some, KO.t, tL_len]
  rw [if_pos ⟨h3, h4, h5, h6⟩]; rfl
 | apps e x y =>
  obtain ⟨l, n, h1, h2⟩ := onS_iff.1 (show (onS (eO s y) fun len n => appE (eO s x) u8 L d S e 1 (byL len n) k) = some r from h)
  have hy : elemsOf (abS S) (.lst 1 (bytesT (bstr l n))) = some (some 1, V.tL (byL l n), 0) := by simp only [elemsOf, bytesT_bstr]
  obtain ⟨v, S1, h3, h4⟩ := appE_t ho hy (.inr rfl) h2
  exact ⟨v, S1, by simp only [Y.x, evX, eO_t, h1, V.t, h3], h4⟩
 | appz e sz z x y =>
  have h : (capK (eO s x) (onP (eO s y) fun _ n => @Bool.rec (fun _ => Option An) none (@Bool.rec (fun _ => Option An) none (newA L d sz e (krep n z) S k) (Nat.ble n 1000000000)) (Nat.blt 0 n))) = some r := h
  cases hx : eO s x with
  | ns =>
   rw [hx] at h
   have h : (onP (eO s y) fun _ n => @Bool.rec (fun _ => Option An) none (@Bool.rec (fun _ => Option An) none (newA L d sz e (krep n z) S k) (Nat.ble n 1000000000)) (Nat.blt 0 n)) = some r := h
   simp only [onP_iff, br_some, nble, nblt] at h
   obtain ⟨c, n, h1, h3, h4, h5⟩ := h
   obtain ⟨v, S1, h6, h7⟩ := newA_t h5
   refine ⟨v, S1, ?_, h7⟩
   simp only [Y.x, evX, eO_t, hx, h1, V.t]
   have hm : (0 : Int) < (n : Int) ∧ (n : Int) ≤ ((maxRow : Nat) : Int) := by
    have : maxRow = 1000000000 := rfl
    omega
   rw [if_pos hm]
   simp only [Int.toNat_natCast]
   rw [← h6, krep_eq, tL_map, List.map_replicate]
  | _ => rw [hx] at h; cases h
 | usd x =>
  have h : (usdK (eO s x) S fun v => k v S) = some r := h
  cases hx : eO s x with
  | own l g off n =>
   rw [hx] at h
   have h : (gArr S l fun _ g1 _ _ _ => @Bool.rec (fun _ => Option An) none (@Bool.rec (fun _ => Option An) none (k (.aptr l g off 0) S) (Nat.blt 0 n)) (Nat.beq g g1)) = some r := h
   simp only [gArr_iff, br_some, nbeq, nblt] at h
   obtain ⟨ro, g1, sz, e, xs, h1, h2, h3, h4⟩ := h
   refine ⟨_, _, ?_, h4⟩
   simp only [Y.x, evX, eO_t, hx, V.t, usdT, abS_lc, h1, Option.map_some, KO.t]
   rw [if_pos ⟨h2, h3⟩]; rfl
  | ns =>
   rw [hx] at h
   exact ⟨.np, S, by simp only [Y.x, evX, eO_t, hx, V.t, usdT, Option.map_some], h⟩
  | _ => rw [hx] at h; cases h
 | ustr e p n =>
  have h : (onP (eO s n) fun c m => @Bool.rec (fun _ => Option An) none (ustrK (eO s p) S e m k) (Nat.beq c 9223372036854775808)) = some r := h
  simp only [onP_iff, br_some, nbeq] at h
  obtain ⟨c, m, h1, rfl, h2⟩ := h
  cases hp : eO s p with
  | np =>
   rw [hp] at h2
   have h2 : (@Bool.rec (fun _ => Option An) none (k (.s 0 0) S) (Nat.beq m 0)) = some r := h2
   rw [br_some, nbeq] at h2
   obtain ⟨rfl, h2⟩ := h2
   exact ⟨.s 0 0, S, by simp only [Y.x, evX, eO_t, h1, hp, V.t]; rfl, h2⟩
  | aptr l g i off =>
   rw [hp] at h2
   have h2 : (gArr S l fun ro g1 sz e1 xs => @Bool.rec (fun _ => Option An) none (@Bool.rec (fun _ => Option An) (@Bool.rec (fun _ => Option An) none (@Bool.rec (fun _ => Option An) none (@Bool.rec (fun _ => Option An) none (@Bool.rec (fun _ => Option An) none (@Bool.rec (fun _ => Option An) none (@Bool.rec (fun _ => Option An) none (@Bool.rec (fun _ => Option An) none (@Bool.rec (fun _ => Option An) none
    (pkBk (ktake m xs) fun q => k (.s m q) (kro S [l])) (kall isBy (ktake m xs))) (Nat.ble m 9223372036854775807)) (Nat.ble m (klen xs))) (Nat.blt 0 m)) (Nat.beq e1 e)) (Nat.beq sz 1)) (Nat.beq off 0)) (Nat.beq i 0)) none ro) (Nat.beq g g1)) = some r := h2
   simp only [gArr_iff, br_some, br_none, nbeq, nble, nblt, klen_eq, ktake_eq, kall_eq] at h2
   obtain ⟨ro, g1, sz, e1, xs, h3, h4, h5, h6, h7, h8, h9, h10, h11, h12, h13, h14⟩ := h2
   unfold pkBk at h14
   cases hq : pkB (xs.take m) with
   | none => rw [hq] at h14; cases h14
   | some q =>
    rw [hq] at h14
    refine ⟨_, _, ?_, (show k (.s m q) (kro S [l]) = some r from h14)⟩
    have hb : ((V.tL xs).take m).all isByte = true := by
     rw [tL_take, tL_map, List.all_map]
     rw [List.all_eq_true] at h13 ⊢
     intro w hw
     exact isBy_t w (h13 w hw)
    have hv := pkB_t _ hq
    rw [← tL_take, List.length_take, Nat.min_eq_left h11] at hv
    simp only [Y.x, evX, eO_t, h1, hp, V.t]
    rw [show kd 9223372036854775808 = .i64 from rfl]
    simp only [ustrR, abS_lc, h3, Option.map_some, KO.t, tL_len, Int.toNat_natCast]
    rw [if_pos ⟨h4, h5, h6, h7, h8, h9, by omega, h11, by omega, hb⟩, hv, Option.map_some, abS_ro]
    rfl
  | _ => rw [hp] at h2; cases h2
end
end Go.TM
