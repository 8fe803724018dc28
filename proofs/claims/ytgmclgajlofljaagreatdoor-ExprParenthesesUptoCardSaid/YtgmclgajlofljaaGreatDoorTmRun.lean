/- Running light code by rewriting. -/
import Derived.Test.YtgmclgajlofljaaGreatDoorTmAbb
import Derived.Laws.Strings
import Derived.Test.YtgmclgajlofljaaGreatDoorTmKs
set_option linter.all false
namespace Go.TM
open Go
def kon (call : CallF) (om : FuncId → List Nat) (L : Nat) (d : Option Nat) (r : List LOp) (s : Slots) : Option (T × Store) → Option St
 | some p => evXs call om L r ⟨putX s d p.1, p.2⟩
 | none => none
def gk (a : T) (w : Bool) (A B : Option St) : Option St :=
 match a with
 | .sc (.bool b) => bif b == w then A else B
 | .tup [] => B
 | _ => none
theorem gk_congr {a a' : T} (h : a = a') (w : Bool) (A B : Option St) : gk a w A B = gk a' w A B := by rw [h]
theorem kon_congr {call : CallF} {om : FuncId → List Nat} {L : Nat} {d : Option Nat} {r : List LOp} {s : Slots} {p p' : Option (T × Store)} (h : p = p') : kon call om L d r s p = kon call om L d r s p' := by rw [h]
section
variable {call : CallF} {om : FuncId → List Nat} {L : Nat} {r : List LOp} {s : Slots} {S : Store} {d j : Nat} {w : Bool} {x : X}
theorem run_nil {st : St} : evXs call om L [] st = some st := rfl
theorem run_o : evXs call om L (⟨some d, none, x⟩ :: r) ⟨s, S⟩ = kon call om L (some d) r s (evX call om L (some d) s S x) := by
 simp only [evXs, stepX, kon]
 cases evX call om L (some d) s S x <;> rfl
theorem run_on : evXs call om L (⟨none, none, x⟩ :: r) ⟨s, S⟩ = kon call om L none r s (evX call om L none s S x) := by
 simp only [evXs, stepX, kon]
 cases evX call om L none s S x <;> rfl
theorem run_og {dd : Option Nat} : evXs call om L (⟨dd, some (j, w), x⟩ :: r) ⟨s, S⟩ = gk (get s j) w (kon call om L dd r s (evX call om L dd s S x)) (evXs call om L r ⟨putX s dd (.tup []), S⟩) := by
 simp only [evXs, stepX, gk]
 cases hg : get s j with
 | sc v =>
  cases v with
  | bool b =>
   simp only []
   cases hb : b == w with
   | true => simp only [cond_true, kon]; cases evX call om L dd s S x <;> rfl
   | false => simp only [cond_false]
  | _ => rfl
 | tup l => cases l <;> rfl
 | _ => rfl
theorem kon_some {dd : Option Nat} {p : T × Store} : kon call om L dd r s (some p) = evXs call om L r ⟨putX s dd p.1, p.2⟩ := rfl
theorem gk_true (A B : Option St) : gk (.sc (.bool true)) true A B = A := rfl
theorem gk_false (A B : Option St) : gk (.sc (.bool false)) false A B = A := rfl
theorem gk_tf (A B : Option St) : gk (.sc (.bool true)) false A B = B := rfl
theorem gk_ft (A B : Option St) : gk (.sc (.bool false)) true A B = B := rfl
theorem gk_tup (w : Bool) (A B : Option St) : gk (.tup []) w A B = B := rfl
theorem X_mv {dd : Option Nat} {y : Operand} {u : T} (h : ev s y = some u) : evX call om L dd s S (.mv y) = some (u, S) := by simp [evX, h]
def liftX (S : Store) : Option T → Option (T × Store)
 | some u => some (u, S)
 | none => none
def binT (op : BinOp) : T → T → Option T
 | .sc a, .sc b => match binS op a b with
  | some v => some (.sc v)
  | none => none
 | _, _ => none
def pickT : T → T → T → Option T
 | .sc (.bool q), x, y => some (bif q then x else y)
 | _, _, _ => none
def two (f : T → T → Option T) : Option T → Option T → Option T
 | some a, some b => f a b
 | _, _ => none
def three (f : T → T → T → Option T) : Option T → Option T → Option T → Option T
 | some a, some b, some c => f a b c
 | _, _, _ => none
theorem two_some (f : T → T → Option T) (a b : T) : two f (some a) (some b) = f a b := rfl
theorem three_some (f : T → T → T → Option T) (a b c : T) : three f (some a) (some b) (some c) = f a b c := rfl
theorem rX_mv {dd : Option Nat} {y : Operand} : evX call om L dd s S (.mv y) = liftX S (ev s y) := by
 simp only [evX]; cases ev s y <;> rfl
theorem rX_pick {dd : Option Nat} {a b c : Operand} : evX call om L dd s S (.pick a b c) = liftX S (three pickT (ev s a) (ev s b) (ev s c)) := by
 simp only [evX]
 cases ev s a with
 | none => rfl
 | some u =>
  cases ev s b with
  | none => cases u with
   | sc v => cases v <;> rfl
   | _ => rfl
  | some v => cases ev s c with
   | none => cases u with
    | sc v => cases v <;> rfl
    | _ => rfl
   | some w => cases u with
    | sc v => cases v <;> rfl
    | _ => rfl
theorem rX_bin {dd : Option Nat} {op : BinOp} {a b : Operand} : evX call om L dd s S (.bin op a b) = liftX S (two (binT op) (ev s a) (ev s b)) := by
 simp only [evX]
 cases ev s a with
 | none => rfl
 | some u =>
  cases ev s b with
  | none => cases u <;> rfl
  | some v =>
   cases u <;> cases v <;> try rfl
   rename_i v u
   simp only [two, binT]
   cases binS op v u <;> rfl
theorem b_lss (k : IntKind) (a b : Int) : binT .lss (.sc (.int k a)) (.sc (.int k b)) = some (.sc (.bool (decide (a < b)))) := by simp [binT, binS]
theorem b_leq (k : IntKind) (a b : Int) : binT .leq (.sc (.int k a)) (.sc (.int k b)) = some (.sc (.bool (decide (a ≤ b)))) := by simp [binT, binS]
theorem b_gtr (k : IntKind) (a b : Int) : binT .gtr (.sc (.int k a)) (.sc (.int k b)) = some (.sc (.bool (decide (b < a)))) := by simp [binT, binS]
theorem b_geq (k : IntKind) (a b : Int) : binT .geq (.sc (.int k a)) (.sc (.int k b)) = some (.sc (.bool (decide (b ≤ a)))) := by simp [binT, binS]
theorem b_eql (k : IntKind) (a b : Int) : binT .eql (.sc (.int k a)) (.sc (.int k b)) = some (.sc (.bool (decide (a = b)))) := by by_cases h : a = b <;> simp [binT, binS, h]
theorem b_neq (k : IntKind) (a b : Int) : binT .neq (.sc (.int k a)) (.sc (.int k b)) = some (.sc (.bool (!decide (a = b)))) := by by_cases h : a = b <;> simp [binT, binS, h]
theorem b_add (k : IntKind) (a b : Int) : binT .add (.sc (.int k a)) (.sc (.int k b)) = some (.sc (.int k (k.wrap (a + b)))) := by simp [binT, binS]
theorem b_sub (k : IntKind) (a b : Int) : binT .sub (.sc (.int k a)) (.sc (.int k b)) = some (.sc (.int k (k.wrap (a - b)))) := by simp [binT, binS]
theorem b_mul (k : IntKind) (a b : Int) : binT .mul (.sc (.int k a)) (.sc (.int k b)) = some (.sc (.int k (k.wrap (a * b)))) := by simp [binT, binS]
theorem b_seql (a b : ByteArray) : binT .eql (.sc (.string a)) (.sc (.string b)) = some (.sc (.bool (a.toList == b.toList))) := by simp [binT, binS]
theorem b_sneq (a b : ByteArray) : binT .neq (.sc (.string a)) (.sc (.string b)) = some (.sc (.bool !(a.toList == b.toList))) := by simp [binT, binS]
theorem p_true (x y : T) : pickT (.sc (.bool true)) x y = some x := rfl
theorem p_false (x y : T) : pickT (.sc (.bool false)) x y = some y := rfl
theorem lift_some (u : T) : liftX S (some u) = some (u, S) := rfl
theorem put_some (u : T) : putX s (some d) u = (d, u) :: s := rfl
theorem put_none (u : T) : putX s none u = s := rfl
end
def str (s : List UInt8) : Value := .string ⟨s.toArray⟩
theorem str_of (b : ByteArray) : Value.string b = str b.data.toList := by simp [str]
def byteT (s : List UInt8) (i : Nat) : T := .sc (.int .u8 ((s.getD i 0).toNat : Nat))
def lenST : T → Option T
 | .sc (.string b) => some (.sc (.int .i64 b.size))
 | _ => none
def idxST : T → T → Option T
 | .sc (.string b), .sc (.int _ n) => idxSR b n
 | _, _ => none
def opt1 (f : T → Option T) : Option T → Option T
 | some a => f a
 | none => none
theorem opt1_some (f : T → Option T) (a : T) : opt1 f (some a) = f a := rfl
theorem lenST_str (s : List UInt8) : lenST (.sc (str s)) = some (.sc (.int .i64 s.length)) := by simp [lenST, str, ByteArray.size]
theorem idxST_str (s : List UInt8) (k : IntKind) (i : Nat) (h : i < s.length) : idxST (.sc (str s)) (.sc (.int k i)) = some (byteT s i) := by
 simp only [idxST, str, idxSR, byteT]
 rw [if_pos (by omega)]
 have hb : (⟨s.toArray⟩ : ByteArray)[(i : Int).toNat]? = some s[i] := by
  rw [Int.toNat_natCast]
  have hs : i < (⟨s.toArray⟩ : ByteArray).size := by simpa [ByteArray.size] using h
  rw [getElem?_pos (⟨s.toArray⟩ : ByteArray) i hs]
  simp [ByteArray.getElem_eq_getElem_data]
 rw [hb]
 simp [List.getD_eq_getElem?_getD, h]
section
variable {call : CallF} {om : FuncId → List Nat} {L : Nat} {s : Slots} {S : Store} {dd : Option Nat}
theorem rX_lenS {x : Operand} : evX call om L dd s S (.lenS x) = liftX S (opt1 lenST (ev s x)) := by
 simp only [evX]
 cases ev s x with
 | none => rfl
 | some u => cases u with
  | sc v => cases v <;> rfl
  | _ => rfl
theorem rX_idxS {x y : Operand} : evX call om L dd s S (.idxS x y) = liftX S (two idxST (ev s x) (ev s y)) := by
 simp only [evX]
 cases ev s x with
 | none => rfl
 | some u => cases ev s y with
  | none => cases u with
   | sc v => cases v <;> rfl
   | _ => rfl
  | some w => cases u with
   | sc v => cases v with
    | string b => cases w with
     | sc v => cases v with
      | int k n => simp only [two, idxST, liftX]; cases idxSR b n <;> rfl
      | _ => rfl
     | _ => rfl
    | _ => cases w <;> rfl
   | _ => cases w <;> rfl
theorem mapLift (o : Option T) : o.map (fun t => (t, S)) = liftX S o := by cases o <;> rfl
def q_bnd (s : Slots) : Option Operand → Option (Option T)
 | none => some none
 | some x => match ev s x with
  | some t => some (some t)
  | none => none
def cutST (x : Option T) (lo hi : Option (Option T)) : Option T :=
 match x, lo, hi with
 | some (.sc (.string b)), some lo, some hi =>
  match (match lo with | none => some (0 : Int) | some (.sc (.int _ n)) => some n | _ => none), (match hi with | none => some (b.size : Int) | some (.sc (.int _ n)) => some n | _ => none) with
  | some l, some h => if 0 ≤ l ∧ l ≤ h ∧ h ≤ b.size then some (.sc (.string (b.extract l.toNat h.toNat))) else none
  | _, _ => none
 | _, _, _ => none
theorem bnd_none : q_bnd s none = some none := rfl
theorem bnd_some (x : Operand) : q_bnd s (some x) = match ev s x with
  | some t => some (some t)
  | none => none := rfl
theorem rX_cutS {x : Operand} {lo hi : Option Operand} : evX call om L dd s S (.cutS x lo hi) = liftX S (cutST (ev s x) (q_bnd s lo) (q_bnd s hi)) := by
 have e1 : ∀ (y : Option Operand) (n : Nat), bndO s n y = match q_bnd s y with
   | some none => some (n : Int)
   | some (some (.sc (.int _ i))) => some i
   | _ => none := by
  intro y n
  cases y with
  | none => rfl
  | some y =>
   simp only [bndO, q_bnd]
   cases ev s y with
   | none => rfl
   | some u => cases u with
    | sc v => cases v <;> rfl
    | _ => rfl
 simp only [evX]
 cases ev s x with
 | none => rfl
 | some u => cases u with
  | sc v => cases v with
   | string b =>
    simp only [cutST, cutSR, e1]
    rcases q_bnd s lo with _ | _ | u
    ·rfl
    ·rcases q_bnd s hi with _ | _ | w
     ·rfl
     ·exact mapLift _
     ·cases w with
      | sc v => cases v with
       | int k n => exact mapLift _
       | _ => rfl
      | _ => rfl
    ·cases u with
     | sc v => cases v with
      | int k n =>
       rcases q_bnd s hi with _ | _ | w
       ·rfl
       ·exact mapLift _
       ·cases w with
        | sc v => cases v with
         | int k n => exact mapLift _
         | _ => rfl
        | _ => rfl
      | _ => rcases q_bnd s hi with _ | _ | w <;> rfl
     | _ => rcases q_bnd s hi with _ | _ | w <;> rfl
   | _ => rfl
  | _ => rfl
def goX (call : CallF) (om : FuncId → List Nat) (L : Nat) (d : Option Nat) (S : Store) (f : FuncId) : Option (List T) → Option (T × Store)
 | some as => (goT call om L d S f as []).map fun r => (r.t, r.S)
 | none => none
def callX (call : CallF) (om : FuncId → List Nat) (L : Nat) (d : Option Nat) (S : Store) (f : Option T) (as : Option (List T)) : Option (T × Store) :=
 match f, as with
 | some f, some as => callR call om L d S f as
 | _, _ => none
theorem rX_call {x : Operand} {xs : List Operand} : evX call om L dd s S (.call x xs) = callX call om L dd S (ev s x) (evL s xs) := rfl
theorem callX_f {f : FuncId} {as : Option (List T)} : callX call om L dd S (some (.sc (.func (.func f) #[] #[]))) as = goX call om L dd S f as := by
 cases as <;> rfl
theorem evL_nil : evL s [] = some [] := rfl
theorem evL_cons (x : Operand) (xs : List Operand) : evL s (x :: xs) = match ev s x, evL s xs with
  | some a, some l => some (a :: l)
  | _, _ => none := rfl
theorem takeIn_sc (n : Nat) (d : Option Nat) (v : Value) (S1 : Store) : takeIn n L d (.sc v) S1 S = some (.sc v, S) := by
 simp [takeIn, locsOf, dedup, lvle]
theorem keepS_sc (ls : List Loc) (v : Value) (S1 : Store) : keepS ls (.sc v) S1 S = S := by
 simp [keepS, hasLst, locsOf, dedup, arrLst]
end
theorem str_extract (l : List UInt8) (a b : Nat) : (⟨l.toArray⟩ : ByteArray).extract a b = ⟨((l.take b).drop a).toArray⟩ := by
 apply ByteArray.ext
 rw [ByteArray.data_extract]
 apply Array.toList_inj.1
 simp [List.drop_take]
theorem cut_ll (l : List UInt8) (k1 k2 : IntKind) (a b : Nat) (h1 : a ≤ b) (h2 : b ≤ l.length) : cutST (some (.sc (str l))) (some (some (.sc (.int k1 a)))) (some (some (.sc (.int k2 b)))) = some (.sc (str ((l.take b).drop a))) := by
 have hs : (⟨l.toArray⟩ : ByteArray).size = l.length := by simp [ByteArray.size]
 simp only [cutST, str, hs]
 rw [if_pos ⟨by omega, by omega, by omega⟩, Int.toNat_natCast, Int.toNat_natCast, str_extract]
theorem cut_nl (l : List UInt8) (k2 : IntKind) (b : Nat) (h2 : b ≤ l.length) : cutST (some (.sc (str l))) (some none) (some (some (.sc (.int k2 b)))) = some (.sc (str (l.take b))) := by
 have hs : (⟨l.toArray⟩ : ByteArray).size = l.length := by simp [ByteArray.size]
 simp only [cutST, str, hs]
 rw [if_pos ⟨by omega, by omega, by omega⟩, Int.toNat_natCast, show (0 : Int).toNat = 0 from rfl, str_extract]
 simp
theorem cut_ln (l : List UInt8) (k1 : IntKind) (a : Nat) (h1 : a ≤ l.length) : cutST (some (.sc (str l))) (some (some (.sc (.int k1 a)))) (some none) = some (.sc (str (l.drop a))) := by
 have hs : (⟨l.toArray⟩ : ByteArray).size = l.length := by simp [ByteArray.size]
 simp only [cutST, str, hs]
 rw [if_pos ⟨by omega, by omega, by omega⟩, Int.toNat_natCast, Int.toNat_natCast, str_extract]
 simp
theorem str_eq (a b : List UInt8) : binT .eql (.sc (str a)) (.sc (str b)) = some (.sc (.bool (a == b))) := by
 simp [str, binT, binS, ByteArray.toList_eq]
theorem cs_str (a : Array UInt8) : (Value.string ⟨a⟩) = str a.toList := by simp [str]
theorem head_emp (L : Nat) (a : Head) (st : St) (h : st.S = emp) (hs : a.sn = []) : headSt L a st = ⟨maskL L a.kl a.lv st.s emp, emp⟩ := by
 simp [headSt, headOf, hs, h, boxAll, snapAll, setRo_emp, maskS_emp]
section
variable {L : Nat}
theorem pack_sc (n : Nat) (v : Value) (S : Store) : pack n (.sc v) S = some (.sc v, trunc (n - 1) S) := by
 simp [pack, locsOf, dedup, packOk, lvle, rename, addS_nil]
end
theorem callF_X {E : Env} {L : Nat} {f : FuncId} {g : List T → Option T} {args : List T} {S : Store} {r : T} (hX : E.X f = some g) (h : g args = some r) (h1 : closed r = true) (h2 : hasLst r = false) (h3 : closedL args = true) :
  callF E L f args S = some (r, S) := by
 refine callF_of ?_
 simp [fnStep, hX, h, h1, h2, h3]
theorem pack_pl {n : Nat} {r : T} {S : Store} (h1 : locsOf n r = []) (h2 : lvle n r = true) : pack n r S = some (r, trunc (n - 1) S) := by
 unfold pack
 rw [h1]
 simp only [dedup, packOk, List.all_nil, h2, Bool.and_self, if_true, addS_nil]
 rw [rename_none (n := n) (fun l hl => by simp [packF, hl]) r h1]
theorem trunc_upd {L m d : Nat} {S : Store} {ob : Obj} (h : L < m) : trunc L (upd S (m, d) ob) = trunc L S := by
 funext l
 unfold trunc upd
 by_cases hl : l.1 ≤ L
 ·have : l ≠ (m, d) := fun e => by rw [e] at hl; exact absurd hl (by simp; omega)
  simp [hl, this]
 ·simp [hl]
theorem emp_ap (l : Loc) : emp l = none := rfl
theorem upd_ap (S : Store) (l m : Loc) (ob : Obj) : upd S l ob m = if m = l then some ob else S m := rfl
theorem upd_upd (S : Store) (l : Loc) (a b : Obj) : upd (upd S l a) l b = upd S l b := by
 funext m; unfold upd; split <;> rfl
section
variable {call : CallF} {om : FuncId → List Nat} {L : Nat} {s : Slots} {S : Store} {dd : Option Nat}
def stoX : Option Store → Option (T × Store)
 | some S' => some (.tup [], S')
 | none => none
def ldP (ag : Bool) (n off : Nat) : Option Obj → Option T
 | some (.box _ cs) => readAt ag n cs off
 | _ => none
def stP (n : Nat) (S : Store) (l : Loc) (off : Nat) (v : T) : Option Obj → Option Store
 | some (.box bt cs) => if v.cells.length = n ∧ off + n ≤ cs.length ∧ lvle l.1 v = true ∧ v.cells.all one = true then some (upd S l (.box bt (splice cs off v.cells))) else none
 | _ => none
theorem rX_alloc {e : TypeId} {z : List T} : evX call om L dd s S (.alloc e z) = newBoxR L dd e z S := rfl
theorem rX_box {e : TypeId} {x : Operand} : evX call om L dd s S (.box e x) = match ev s x with
  | some t => newBoxR L dd e t.cells S
  | none => none := rfl
theorem newBoxR_d {d : Nat} {bt : TypeId} {cs : List T} : newBoxR L (some d) bt cs S = if (S (L, d)).isNone && lvleL L cs && cs.all one then some (.ptr (L, d) 0, upd S (L, d) (.box bt cs)) else none := rfl
theorem rX_store {n : Nat} {x y : Operand} : evX call om L dd s S (.store n x y) = match ev s x, ev s y with
  | some a, some b => stoX (storeR n S a b)
  | _, _ => none := by
 simp only [evX]
 cases ev s x <;> cases ev s y <;> try rfl
 rename_i a b
 simp only [stoX]
 cases storeR n S a b <;> rfl
theorem storeR_ptr {n : Nat} {l : Loc} {off : Nat} {v : T} : storeR n S (.ptr l off) v = stP n S l off v (S l) := by
 simp only [storeR, stP]
 by_cases h : v.cells.length = n
 ·simp only [h, if_true, true_and]
  cases S l with
  | none => rfl
  | some ob => cases ob <;> rfl
 ·simp only [h, if_false, false_and]
  cases S l with
  | none => rfl
  | some ob => cases ob <;> rfl
theorem stP_box {n : Nat} {l : Loc} {off : Nat} {v : T} {bt : TypeId} {cs : List T} : stP n S l off v (some (.box bt cs)) = if v.cells.length = n ∧ off + n ≤ cs.length ∧ lvle l.1 v = true ∧ v.cells.all one = true then some (upd S l (.box bt (splice cs off v.cells))) else none := rfl
theorem rX_load {ag : Bool} {n : Nat} {x : Operand} : evX call om L dd s S (.load ag n x) = liftX S (opt1 (loadR ag n S) (ev s x)) := by
 simp only [evX]
 cases ev s x with
 | none => rfl
 | some u => exact mapLift _
theorem loadR_ptr {ag : Bool} {n : Nat} {l : Loc} {off : Nat} : loadR ag n S (.ptr l off) = ldP ag n off (S l) := by
 simp only [loadR, ldP]
 cases S l with
 | none => rfl
 | some ob => cases ob <;> rfl
theorem ldP_box {ag : Bool} {n off : Nat} {bt : TypeId} {cs : List T} : ldP ag n off (some (.box bt cs)) = readAt ag n cs off := rfl
theorem rX_faddr {k : Nat} {x : Operand} : evX call om L dd s S (.faddr k x) = liftX S (opt1 (faddrR k) (ev s x)) := by
 simp only [evX]
 cases ev s x with
 | none => rfl
 | some u => exact mapLift _
theorem faddrR_ptr {k : Nat} {l : Loc} {off : Nat} : faddrR k (.ptr l off) = some (.ptr l (off + k)) := rfl
def aggX : Option (List T) → Option T
 | some cs => some (.agg cs)
 | none => none
theorem rX_bld {ps : List (Nat × Nat)} {z : List T} {parts : List (Nat × Operand)} : evX call om L dd s S (.bld ps z parts) = liftX S (aggX (fillT ps s z parts)) := by
 simp only [evX]
 cases fillT ps s z parts <;> rfl
theorem fill_nil {ps : List (Nat × Nat)} {cs : List T} : fillT ps s cs [] = some cs := rfl
def q_fillK (ps : List (Nat × Nat)) (s : Slots) (cs : List T) (r : List (Nat × Operand)) : Option (Nat × Nat) → Option T → Option (List T)
 | some (off, n), some t => if t.cells.length = n ∧ off + n ≤ cs.length ∧ t.cells.all one = true then fillT ps s (splice cs off t.cells) r else none
 | _, _ => none
theorem fill_cons {ps : List (Nat × Nat)} {cs : List T} {i : Nat} {x : Operand} {r : List (Nat × Operand)} : fillT ps s cs ((i, x) :: r) = q_fillK ps s cs r ps[i]? (ev s x) := by
 simp only [fillT, q_fillK]
 cases ps[i]? <;> cases ev s x <;> rfl
theorem fillK_some {ps : List (Nat × Nat)} {cs : List T} {r : List (Nat × Operand)} {off n : Nat} {t : T} : q_fillK ps s cs r (some (off, n)) (some t) = if t.cells.length = n ∧ off + n ≤ cs.length ∧ t.cells.all one = true then fillT ps s (splice cs off t.cells) r else none := rfl
def extT (j : Nat) : T → Option T
 | .tup ts => ts[j]?
 | _ => none
theorem rX_ext {x : Operand} {j : Nat} : evX call om L dd s S (.ext x j) = liftX S (opt1 (extT j) (ev s x)) := by
 simp only [evX]
 cases ev s x with
 | none => rfl
 | some u =>
  cases u with
  | tup ts => exact mapLift _
  | _ => rfl
def notT : T → Option T
 | .sc (.bool a) => some (.sc (.bool !a))
 | _ => none
theorem rX_not {x : Operand} : evX call om L dd s S (.not x) = liftX S (opt1 notT (ev s x)) := by
 simp only [evX]
 cases ev s x with
 | none => rfl
 | some u => cases u with
  | sc v => cases v <;> rfl
  | _ => rfl
def mmT (mx : Bool) : T → T → Option T
 | .sc (.int k a), .sc (.int _ b) => some (.sc (.int k (bif mx then (if b > a then b else a) else (if b < a then b else a))))
 | _, _ => none
theorem rX_mm {mx : Bool} {x y : Operand} : evX call om L dd s S (.mm mx x y) = liftX S (two (mmT mx) (ev s x) (ev s y)) := by
 simp only [evX]
 cases ev s x with
 | none => rfl
 | some u => cases ev s y with
  | none => cases u with
   | sc v => cases v <;> rfl
   | _ => rfl
  | some w => cases u with
   | sc v => cases v with
    | int k n => cases w with
     | sc v => cases v <;> rfl
     | _ => rfl
    | _ => cases w <;> rfl
   | _ => cases w <;> rfl
theorem cells_sc (v : Value) : (T.sc v).cells = [.sc v] := rfl
theorem cells_agg (cs : List T) : (T.agg cs).cells = cs := rfl
theorem one_sc (v : Value) : one (.sc v) = true := rfl
theorem lv_sc (n : Nat) (v : Value) : lvle n (.sc v) = true := rfl
theorem lv_agg (n : Nat) (cs : List T) : lvle n (.agg cs) = lvleL n cs := rfl
theorem lvL_nil (n : Nat) : lvleL n [] = true := rfl
theorem lvL_cons (n : Nat) (x : T) (xs : List T) : lvleL n (x :: xs) = (lvle n x && lvleL n xs) := rfl
end
end Go.TM
namespace Go.TM
open Go
theorem head_box {d : Nat} {a : Head} {st : St} {bt : TypeId} {cs : List T} (hS : st.S = upd emp (1, d) (.box bt cs)) (hs : a.sn = []) (hk : a.kl = [d]) (hc : renameL (upd emp (1, d) (.box bt cs)) (maskF 1 [d]) (fun m => m.1 == 1) cs = cs) :
  headSt 1 a st = ⟨maskL 1 [d] a.lv st.s (upd emp (1, d) (.box bt cs)), upd emp (1, d) (.box bt cs)⟩ := by
 simp only [headSt, headOf, hs, boxAll, snapAll, setRo_nil, hk, hS]
 congr 1
 funext l
 unfold maskS
 by_cases h1 : l.1 = 1
 ·simp only [h1, if_true]
  by_cases h2 : l.2 = d
  ·have : l = (1, d) := by ext; exact h1; exact h2
   subst this
   simp [upd_same, renObj, hc]
  ·have : l ≠ (1, d) := fun e => h2 (by rw [e])
   have hn : ([d] : List Nat).contains l.2 = false := by simp [h2]
   rw [hn]
   simp [upd_ne _ _ this, emp]
 ·simp only [h1, if_false]
theorem b_or (k : IntKind) (a b : Int) : binT .or (.sc (.int k a)) (.sc (.int k b)) = some (.sc (.int k (k.wrap (BitVec.ofInt k.bits a ||| BitVec.ofInt k.bits b).toNat))) := by simp [binT, binS]
theorem b_and (k : IntKind) (a b : Int) : binT .and (.sc (.int k a)) (.sc (.int k b)) = some (.sc (.int k (k.wrap (BitVec.ofInt k.bits a &&& BitVec.ofInt k.bits b).toNat))) := by simp [binT, binS]
theorem b_shr (k k' : IntKind) (a b : Int) (h : 0 ≤ b) : binT .shr (.sc (.int k a)) (.sc (.int k' b)) = some (.sc (.int k (a.fdiv (2 ^ min b.toNat k.bits)))) := by
 have : ¬ b < 0 := by omega
 simp [binT, binS, this]
theorem b_shl (k k' : IntKind) (a b : Int) (h : 0 ≤ b) : binT .shl (.sc (.int k a)) (.sc (.int k' b)) = some (.sc (.int k (k.wrap (a * 2 ^ min b.toNat k.bits)))) := by
 have : ¬ b < 0 := by omega
 simp [binT, binS, this]
section
variable {call : CallF} {om : FuncId → List Nat} {L : Nat} {s : Slots} {S : Store} {dd : Option Nat}
def cvT (k : IntKind) : T → Option T
 | .sc (.int _ a) => some (.sc (.int k (k.wrap a)))
 | _ => none
theorem rX_cv {k : IntKind} {x : Operand} : evX call om L dd s S (.cv k x) = liftX S (opt1 (cvT k) (ev s x)) := by
 simp only [evX]
 cases ev s x with
 | none => rfl
 | some u => cases u with
  | sc v => cases v <;> rfl
  | _ => rfl
theorem cvT_int (k k' : IntKind) (a : Int) : cvT k (.sc (.int k' a)) = some (.sc (.int k (k.wrap a))) := rfl
def s2bT : T → Option T
 | .sc (.string b) => some (.lst 1 (bytesT b))
 | _ => none
theorem rX_s2b {x : Operand} : evX call om L dd s S (.s2b x) = liftX S (opt1 s2bT (ev s x)) := by
 simp only [evX]
 cases ev s x with
 | none => rfl
 | some u => cases u with
  | sc v => cases v <;> rfl
  | _ => rfl
def bT (b : UInt8) : T := .sc (.int .u8 b.toNat)
theorem s2bT_str (l : List UInt8) : s2bT (.sc (str l)) = some (.lst 1 (l.map bT)) := rfl
def lenT : T → Option T
 | .lst _ xs => some (.sc (.int .i64 xs.length))
 | .own _ _ _ len => some (.sc (.int .i64 len))
 | .sc (.slice none n c) => if n = 0 ∧ c = 0 then some (.sc (.int .i64 0)) else none
 | _ => none
theorem rX_len {x : Operand} : evX call om L dd s S (.len x) = liftX S (opt1 lenT (ev s x)) := by
 simp only [evX]
 cases ev s x with
 | none => rfl
 | some u => cases u with
  | sc v => cases v with
   | slice a n c => cases a with
    | none => simp only [opt1, lenT]; split <;> rfl
    | some a => rfl
   | _ => rfl
  | _ => rfl
theorem lenT_lst (sz : Nat) (xs : List T) : lenT (.lst sz xs) = some (.sc (.int .i64 xs.length)) := rfl
theorem lenT_own (l : Loc) (g off len : Nat) : lenT (.own l g off len) = some (.sc (.int .i64 len)) := rfl
theorem lenT_nil : lenT (.sc (.slice none 0 0)) = some (.sc (.int .i64 0)) := rfl
theorem rX_iaddr {sz : Nat} {x i : Operand} : evX call om L dd s S (.iaddr sz x i) = liftX S (two (iaddrR sz S) (ev s x) (ev s i)) := by
 simp only [evX]
 cases ev s x with
 | none => rfl
 | some u => cases ev s i with
  | none => rfl
  | some w => exact mapLift _
theorem iaddrR_lst (sz : Nat) (xs : List T) (k : IntKind) (i : Nat) (h : i < xs.length) : iaddrR sz S (.lst sz xs) (.sc (.int k i)) = some (.lptr sz xs i 0) := by
 have hi : idxOk (i : Int) xs.length = true := by simp [idxOk]; omega
 simp [iaddrR, hi]
theorem loadR_lptr {ag : Bool} {n sz : Nat} {xs : List T} {i off : Nat} {x : T} (h : xs[i]? = some x) : loadR ag n S (.lptr sz xs i off) = readAt ag n x.cells off := by
 simp only [loadR, h]
end
end Go.TM
namespace Go.TM
open Go
inductive Kt where
 | sq (b : LC)
 | bl (id : Nat)
 | lp (h : Head) (c : LC)
section
variable (E : Env) (L n : Nat)
noncomputable def Lp (h : Head) (c : LC) (st : St) : Option (Ex × St) :=
 match evL' E.P (callF E) E.om L n c st with
 | some (.nrm, st') => evL' E.P (callF E) E.om L n (.loop h c) st'
 | r => r
noncomputable def RX : List Kt → Ex → St → Option (Ex × St)
 | [], x, st => some (x, st)
 | .sq b :: ks, .nrm, st => match evL' E.P (callF E) E.om L n b st with
  | some (x, st') => RX ks x st'
  | none => none
 | .sq _ :: ks, x, st => RX ks x st
 | .bl id :: ks, .exit i, st => if i = id then RX ks .nrm st else RX ks (.exit i) st
 | .bl _ :: ks, x, st => RX ks x st
 | .lp h c :: ks, .nrm, st => match evL' E.P (callF E) E.om L n (.loop h c) st with
  | some (x, st') => RX ks x st'
  | none => none
 | .lp _ _ :: ks, x, st => RX ks x st
noncomputable def RM (ks : List Kt) : Option (Ex × St) → Option (Ex × St)
 | some (x, st) => RX E L n ks x st
 | none => none
noncomputable def R (c : LC) (ks : List Kt) (st : St) : Option (Ex × St) := RM E L n ks (evL' E.P (callF E) E.om L n c st)
noncomputable def RO (l : List LOp) (ks : List Kt) (st : St) : Option (Ex × St) :=
 match evXs (callF E) E.om L l st with
 | some st' => RX E L n ks .nrm st'
 | none => none
noncomputable def RK (d : Option Nat) (r : List LOp) (ks : List Kt) (s : Slots) : Option (T × Store) → Option (Ex × St)
 | some p => RO E L n r ks ⟨putX s d p.1, p.2⟩
 | none => none
open Classical in
noncomputable def RQ (l : List LOp) (k : List Foot) (ks : List Kt) (st : St) : Option (Ex × St) :=
 match qrun (callF E) E.om L l k st with
 | some st' => RX E L n ks .nrm st'
 | none => none
open Classical in
noncomputable def RQK (k : Foot) (o : LOp) (r : List LOp) (kr : List Foot) (ks : List Kt) (s : Slots) (S : Store) : Option (T × Store) → Option (Ex × St)
 | some p => if (trunc L S = S ∧ trunc L p.2 = p.2) ∧ Local (callF E) E.om L o k s S p.1 p.2 then RQ E L n r kr ks ⟨putX s o.d p.1, p.2⟩ else none
 | none => none
noncomputable def RC (v : Option T) (a b : LC) (ks : List Kt) (st : St) : Option (Ex × St) :=
 match v with
 | some (.sc (.bool q)) => if q = true then R E L n a ks st else R E L n b ks st
 | _ => none
noncomputable def RG (v : T) (w : Bool) (d : Option Nat) (x : X) (r : List LOp) (ks : List Kt) (s : Slots) (S : Store) : Option (Ex × St) :=
 match v with
 | .sc (.bool b) => if b = w then RK E L n d r ks s (evX (callF E) E.om L d s S x) else RO E L n r ks ⟨putX s d (.tup []), S⟩
 | .tup [] => RO E L n r ks ⟨putX s d (.tup []), S⟩
 | _ => none
end
section
variable {E : Env} {L n : Nat} {st : St} {ks : List Kt} {s : Slots} {S : Store}
theorem R_congr {st st' : St} (h : st = st') (c : LC) (ks : List Kt) : R E L n c ks st = R E L n c ks st' := by rw [h]
theorem RX_congr {st st' : St} (h : st = st') (x : Ex) (ks : List Kt) : RX E L n ks x st = RX E L n ks x st' := by rw [h]
theorem RM_congr {r r' : Option (Ex × St)} (h : r = r') (ks : List Kt) : RM E L n ks r = RM E L n ks r' := by rw [h]
theorem RO_congr {st st' : St} (h : st = st') (l : List LOp) (ks : List Kt) : RO E L n l ks st = RO E L n l ks st' := by rw [h]
theorem RK_congr {p p' : Option (T × Store)} (h : p = p') (d : Option Nat) (r : List LOp) (ks : List Kt) (s : Slots) : RK E L n d r ks s p = RK E L n d r ks s p' := by rw [h]
theorem RQ_congr {st st' : St} (h : st = st') (l : List LOp) (k : List Foot) (ks : List Kt) : RQ E L n l k ks st = RQ E L n l k ks st' := by rw [h]
theorem RQK_congr {p p' : Option (T × Store)} (h : p = p') (k : Foot) (o : LOp) (r : List LOp) (kr : List Foot) (ks : List Kt) (s : Slots) (S : Store) : RQK E L n k o r kr ks s S p = RQK E L n k o r kr ks s S p' := by rw [h]
theorem valX_n (d : Option Nat) (x : X) : valX (callF E) E.om L ⟨d, none, x⟩ s S = evX (callF E) E.om L d s S x := rfl
def vG (v : T) (w : Bool) (S : Store) (r : Option (T × Store)) : Option (T × Store) :=
 match v with
 | .sc (.bool b) => if b = w then r else some (.tup [], S)
 | .tup [] => some (.tup [], S)
 | _ => none
theorem vG_congr {v v' : T} (h : v = v') (w : Bool) (S : Store) (r : Option (T × Store)) : vG v w S r = vG v' w S r := by rw [h]
theorem valX_g (d : Option Nat) (j : Nat) (w : Bool) (x : X) : valX (callF E) E.om L ⟨d, some (j, w), x⟩ s S = vG (get s j) w S (evX (callF E) E.om L d s S x) := rfl
theorem vG_b (b w : Bool) (r : Option (T × Store)) : vG (.sc (.bool b)) w S r = if b = w then r else some (.tup [], S) := rfl
theorem vG_t (w : Bool) (r : Option (T × Store)) : vG (.tup []) w S r = some (.tup [], S) := rfl
theorem R_drq (l : List LOp) (k : List Foot) : R E L n (.drq l k) ks st = RQ E L n l k ks st := by
 simp only [R, evL', RQ]
 cases qrun (callF E) E.om L l k st <;> rfl
theorem RQ_nil (k : List Foot) : RQ E L n [] k ks st = RX E L n ks .nrm st := rfl
open Classical in
theorem RQ_cons (o : LOp) (r : List LOp) (k : Foot) (kr : List Foot) : RQ E L n (o :: r) (k :: kr) ks ⟨s, S⟩ = RQK E L n k o r kr ks s S (valX (callF E) E.om L o s S) := by
 simp only [RQ, qrun, RQK]
 cases valX (callF E) E.om L o s S with
 | none => rfl
 | some p =>
  by_cases h : (trunc L S = S ∧ trunc L p.2 = p.2) ∧ Local (callF E) E.om L o k s S p.1 p.2
  ·dsimp only; rw [if_pos h, if_pos h]
  ·dsimp only; rw [if_neg h, if_neg h]
open Classical in
theorem RQK_some (k : Foot) (o : LOp) (r : List LOp) (kr : List Foot) (u : T) (S' : Store) : RQK E L n k o r kr ks s S (some (u, S')) = if (trunc L S = S ∧ trunc L S' = S') ∧ Local (callF E) E.om L o k s S u S' then RQ E L n r kr ks ⟨putX s o.d u, S'⟩ else none := rfl
theorem local_eq (o : LOp) (f : Foot) (u : T) (S1 : Store) : Local (callF E) E.om L o f s S u S1 = ∀ X : Store, valX (callF E) E.om L o s (over (locs L f.1) S (trunc L X)) = some (u, over (locs L f.2) S1 (over (locs L f.1) S (trunc L X))) := rfl
def updO (S : Store) (l : Loc) : Option Obj → Store
 | some o => upd S l o
 | none => fun m => if m = l then none else S m
theorem updO_some (l : Loc) (o : Obj) : updO S l (some o) = upd S l o := rfl
theorem updO_ap (l m : Loc) : updO S l none m = if m = l then none else S m := rfl
theorem upd_updO (l : Loc) (o : Obj) : upd (updO S l none) l o = upd S l o := by
 funext m; unfold upd updO; by_cases h : m = l <;> simp [h]
theorem trunc_updO (m k d : Nat) : trunc m (updO S (k, d) none) = updO (trunc m S) (k, d) none := by
 funext l; unfold trunc updO; by_cases h : l = (k, d) <;> simp [h]
theorem over_nil (S1 : Store) : over (locs L []) S1 S = S := by funext l; simp [over, in_locs]
def lowO (L : Nat) (S1 S : Store) : Store := fun l => if l.1 < L then S1 l else S l
theorem lowO_ap (S1 : Store) (l : Loc) : lowO L S1 S l = if l.1 < L then S1 l else S l := rfl
theorem over_low (S1 : Store) : over (locs L [9999999]) S1 S = lowO L S1 S := by
 funext l
 unfold over lowO
 by_cases h1 : l.1 < L
 ·have : l ∈ locs L [9999999] := .inr ⟨h1, by simp⟩
  rw [if_pos this, if_pos h1]
 ·have : ¬ l ∈ locs L [9999999] := by
   intro h
   rcases in_locs.1 h with ⟨h2, h3, h4⟩ | ⟨h2, _⟩
   ·exact h3 (by simpa using h4)
   ·exact h1 h2
  rw [if_neg this, if_neg h1]
theorem lowO_lowO (S1 S2 : Store) : lowO L S1 (lowO L S2 S) = lowO L S1 S := by funext l; unfold lowO; split <;> rfl
theorem lowO_upd (S1 : Store) (k d : Nat) (o : Obj) (h : k < L) : lowO L (upd S1 (k, d) o) S = upd (lowO L S1 S) (k, d) o := by
 funext l; unfold lowO upd
 by_cases hl : l = (k, d)
 ·subst hl; simp [h]
 ·simp [hl]
theorem setRo_lowO (S1 : Store) (k d : Nat) (h : k < L) : setRo (lowO L S1 S) [(k, d)] = lowO L (setRo S1 [(k, d)]) S := by
 funext l
 unfold lowO setRo
 by_cases h1 : l.1 < L
 ·simp [h1]
 ·have : ¬ l = (k, d) := by intro e; subst e; exact h1 h
  simp only [h1, if_false]
  cases S l with
  | none => rfl
  | some ob => cases ob <;> simp [this]
theorem over_cons (d : Nat) (r : List Nat) (S1 : Store) (h9 : d < 9999999) : over (locs L (d :: r)) S1 S = updO (over (locs L r) S1 S) (L, d) (S1 (L, d)) := by
 funext l
 have : updO (over (locs L r) S1 S) (L, d) (S1 (L, d)) l = if l = (L, d) then S1 (L, d) else over (locs L r) S1 S l := by cases S1 (L, d) <;> rfl
 rw [this]
 unfold over
 by_cases hl : l = (L, d)
 ·subst hl
  have : ((L, d) : Loc) ∈ locs L (d :: r) := .inl ⟨rfl, by show d ≠ 9999999; omega, by simp⟩
  rw [if_pos this, if_pos rfl]
 ·have h2 : l ∈ locs L (d :: r) ↔ l ∈ locs L r := by
   simp only [in_locs, List.mem_cons]
   constructor
   ·rintro (⟨a, h9, rfl | b⟩ | ⟨a, b | b⟩)
    ·exact absurd (by ext; exact a; rfl) hl
    ·exact .inl ⟨a, h9, b⟩
    ·omega
    ·exact .inr ⟨a, b⟩
   ·rintro (⟨a, h9, b⟩ | ⟨a, b⟩)
    ·exact .inl ⟨a, h9, .inr b⟩
    ·exact .inr ⟨a, .inr b⟩
  rw [if_neg hl]
  by_cases h : l ∈ locs L r
  ·rw [if_pos (h2.2 h), if_pos h]
  ·rw [if_neg (fun x => h (h2.1 x)), if_neg h]
theorem RC_congr {v v' : Option T} (h : v = v') (a b : LC) (ks : List Kt) (st : St) : RC E L n v a b ks st = RC E L n v' a b ks st := by rw [h]
theorem RG_congr {v v' : T} (h : v = v') (w : Bool) (d : Option Nat) (x : X) (r : List LOp) (ks : List Kt) (s : Slots) (S : Store) : RG E L n v w d x r ks s S = RG E L n v' w d x r ks s S := by rw [h]
theorem Lp_congr {st st' : St} (h : st = st') (hd : Head) (c : LC) : Lp E L n hd c st = Lp E L n hd c st' := by rw [h]
theorem ite_cc {α : Sort _} {p q : Prop} [ip : Decidable p] [iq : Decidable q] (h : p = q) (a b : α) : ite p a b = ite q a b := by
 subst h; by_cases hp : p <;> simp [hp]
theorem R_skip : R E L n .skip ks st = RX E L n ks .nrm st := rfl
theorem R_seq (a b : LC) : R E L n (.seq a b) ks st = R E L n a (.sq b :: ks) st := by
 simp only [R, evL']
 rcases evL' E.P (callF E) E.om L n a st with _ | ⟨x, y⟩
 ·rfl
 ·cases x with
  | nrm =>
   simp only [RM, RX]
  | _ => rfl
theorem R_block (id : Nat) (c : LC) : R E L n (.block id c) ks st = R E L n c (.bl id :: ks) st := by
 simp only [R, evL']
 rcases evL' E.P (callF E) E.om L n c st with _ | ⟨x, y⟩
 ·rfl
 ·cases x with
  | exit i =>
   simp only [RM, RX]
   by_cases h : i = id <;> simp only [h, if_true, if_false]
  | _ => rfl
theorem RX_ret : ∀ ks, RX E L n ks .ret st = some (.ret, st)
 | [] => rfl
 | .sq _ :: ks => by simp only [RX]; exact RX_ret ks
 | .bl _ :: ks => by simp only [RX]; exact RX_ret ks
 | .lp _ _ :: ks => by simp only [RX]; exact RX_ret ks
theorem R_ret (h : Head) : R E L n (.ret h) ks st = some (.ret, leaveSt L h st) := by
 simp only [R, evL', RM]; exact RX_ret ks
theorem R_exit (h : Head) (id : Nat) : R E L n (.exit h id) ks st = RX E L n ks (.exit id) (leaveSt L h st) := rfl
theorem R_ops (l : List LOp) : R E L n (.ops l) ks st = RO E L n l ks st := by
 simp only [R, evL', RO]
 cases evXs (callF E) E.om L l st <;> rfl
theorem R_cond (c : Operand) (a b : LC) : R E L n (.cond c a b) ks st = RC E L n (ev st.s c) a b ks st := by
 simp only [R, evL', RC]
 cases ev st.s c with
 | none => rfl
 | some u => cases u with
  | sc v => cases v with
   | bool q => cases q <;> rfl
   | _ => rfl
  | _ => rfl
theorem R_loop (h : Head) (c : LC) : R E L n (.loop h c) ks st = RM E L n ks (Lp E L n h c (headSt L h st)) := by
 simp only [R, Lp]
 rw [evL'_loop]
 rcases evL' E.P (callF E) E.om L n c (headSt L h st) with _ | ⟨x, y⟩
 ·rfl
 ·cases x <;> rfl
theorem Lp_eq (h : Head) (c : LC) : Lp E L n h c st = R E L n c [.lp h c] st := by
 simp only [Lp, R]
 rcases evL' E.P (callF E) E.om L n c st with _ | ⟨x, y⟩
 ·rfl
 ·cases x with
  | nrm =>
   simp only [RM, RX]
   rcases evL' E.P (callF E) E.om L n (.loop h c) y with _ | ⟨x, y⟩ <;> rfl
  | _ => rfl
theorem RX_nil (x : Ex) : RX E L n [] x st = some (x, st) := rfl
theorem RX_sq (b : LC) : RX E L n (.sq b :: ks) .nrm st = R E L n b ks st := by
 simp only [RX, R]
 rcases evL' E.P (callF E) E.om L n b st with _ | ⟨x, y⟩ <;> rfl
theorem RX_sqe (b : LC) (i : Nat) : RX E L n (.sq b :: ks) (.exit i) st = RX E L n ks (.exit i) st := rfl
theorem RX_bln (id : Nat) : RX E L n (.bl id :: ks) .nrm st = RX E L n ks .nrm st := rfl
theorem RX_ble (id i : Nat) : RX E L n (.bl id :: ks) (.exit i) st = if i = id then RX E L n ks .nrm st else RX E L n ks (.exit i) st := rfl
theorem RX_lpn (h : Head) (c : LC) : RX E L n (.lp h c :: ks) .nrm st = RM E L n ks (Lp E L n h c (headSt L h st)) := by
 rw [← R_loop]
 simp only [RX, R]
 rcases evL' E.P (callF E) E.om L n (.loop h c) st with _ | ⟨x, y⟩ <;> rfl
theorem RX_lpe (h : Head) (c : LC) (i : Nat) : RX E L n (.lp h c :: ks) (.exit i) st = RX E L n ks (.exit i) st := rfl
theorem RM_some (x : Ex) : RM E L n ks (some (x, st)) = RX E L n ks x st := rfl
theorem RM_ite (p : Prop) [Decidable p] (a b : Option (Ex × St)) : RM E L n ks (if p then a else b) = if p then RM E L n ks a else RM E L n ks b := by split <;> rfl
theorem RM_nil (r : Option (Ex × St)) : RM E L n [] r = r := by rcases r with _ | ⟨x, y⟩ <;> rfl
theorem RO_nil : RO E L n [] ks st = RX E L n ks .nrm st := rfl
theorem RO_o (d : Option Nat) (x : X) (r : List LOp) : RO E L n (⟨d, none, x⟩ :: r) ks ⟨s, S⟩ = RK E L n d r ks s (evX (callF E) E.om L d s S x) := by
 simp only [RO, evXs, stepX, RK]
 cases evX (callF E) E.om L d s S x <;> rfl
theorem RO_g (d : Option Nat) (j : Nat) (w : Bool) (x : X) (r : List LOp) : RO E L n (⟨d, some (j, w), x⟩ :: r) ks ⟨s, S⟩ = RG E L n (get s j) w d x r ks s S := by
 simp only [RO, evXs, stepX, RG]
 cases hg : get s j with
 | sc v =>
  cases v with
  | bool b =>
   simp only []
   cases hb : b == w with
   | true =>
    simp only [beq_iff_eq] at hb
    subst hb
    simp only [cond_true, RK, if_true]
    cases evX (callF E) E.om L d s S x <;> rfl
   | false =>
    have : ¬ b = w := by simpa using hb
    simp only [cond_false, if_neg this]
  | _ => rfl
 | tup ts => cases ts <;> rfl
 | _ => rfl
theorem RK_some (d : Option Nat) (r : List LOp) (u : T) (S' : Store) : RK E L n d r ks s (some (u, S')) = RO E L n r ks ⟨putX s d u, S'⟩ := rfl
theorem RC_b (q : Bool) (a b : LC) : RC E L n (some (.sc (.bool q))) a b ks st = if q = true then R E L n a ks st else R E L n b ks st := rfl
theorem RG_b (b w : Bool) (d : Option Nat) (x : X) (r : List LOp) : RG E L n (.sc (.bool b)) w d x r ks s S = if b = w then RK E L n d r ks s (evX (callF E) E.om L d s S x) else RO E L n r ks ⟨putX s d (.tup []), S⟩ := rfl
theorem RC_d (p : Prop) [Decidable p] (a b : LC) : RC E L n (some (.sc (.bool (decide p)))) a b ks st = if p then R E L n a ks st else R E L n b ks st := by
 by_cases h : p <;> simp [h, RC]
theorem RC_n (q : Bool) (a b : LC) : RC E L n (some (.sc (.bool (!q)))) a b ks st = RC E L n (some (.sc (.bool q))) b a ks st := by cases q <;> rfl
theorem RG_d (p : Prop) [Decidable p] (d : Option Nat) (x : X) (r : List LOp) : RG E L n (.sc (.bool (decide p))) true d x r ks s S = if p then RK E L n d r ks s (evX (callF E) E.om L d s S x) else RO E L n r ks ⟨putX s d (.tup []), S⟩ := by
 by_cases h : p <;> simp [h, RG]
theorem RG_e (p : Prop) [Decidable p] (d : Option Nat) (x : X) (r : List LOp) : RG E L n (.sc (.bool (decide p))) false d x r ks s S = if p then RO E L n r ks ⟨putX s d (.tup []), S⟩ else RK E L n d r ks s (evX (callF E) E.om L d s S x) := by
 by_cases h : p <;> simp [h, RG]
theorem RG_x (q : Bool) (d : Option Nat) (x : X) (r : List LOp) : RG E L n (.sc (.bool q)) true d x r ks s S = if q = true then RK E L n d r ks s (evX (callF E) E.om L d s S x) else RO E L n r ks ⟨putX s d (.tup []), S⟩ := by cases q <;> rfl
theorem RG_y (q : Bool) (d : Option Nat) (x : X) (r : List LOp) : RG E L n (.sc (.bool q)) false d x r ks s S = if q = true then RO E L n r ks ⟨putX s d (.tup []), S⟩ else RK E L n d r ks s (evX (callF E) E.om L d s S x) := by cases q <;> rfl
theorem vG_x (q w : Bool) (r : Option (T × Store)) : vG (.sc (.bool q)) w S r = if q = w then r else some (.tup [], S) := rfl
theorem RG_n (q w : Bool) (d : Option Nat) (x : X) (r : List LOp) : RG E L n (.sc (.bool (!q))) w d x r ks s S = RG E L n (.sc (.bool q)) (!w) d x r ks s S := by cases q <;> cases w <;> rfl
theorem RC_tt (a b : LC) : RC E L n (some (.sc (.bool true))) a b ks st = R E L n a ks st := rfl
theorem RC_ff (a b : LC) : RC E L n (some (.sc (.bool false))) a b ks st = R E L n b ks st := rfl
theorem RG_tt (d : Option Nat) (x : X) (r : List LOp) : RG E L n (.sc (.bool true)) true d x r ks s S = RK E L n d r ks s (evX (callF E) E.om L d s S x) := rfl
theorem RG_ff (d : Option Nat) (x : X) (r : List LOp) : RG E L n (.sc (.bool false)) false d x r ks s S = RK E L n d r ks s (evX (callF E) E.om L d s S x) := rfl
theorem RG_tf (d : Option Nat) (x : X) (r : List LOp) : RG E L n (.sc (.bool true)) false d x r ks s S = RO E L n r ks ⟨putX s d (.tup []), S⟩ := rfl
theorem RG_ft (d : Option Nat) (x : X) (r : List LOp) : RG E L n (.sc (.bool false)) true d x r ks s S = RO E L n r ks ⟨putX s d (.tup []), S⟩ := rfl
theorem vG_tt (r : Option (T × Store)) : vG (.sc (.bool true)) true S r = r := rfl
theorem vG_ff (r : Option (T × Store)) : vG (.sc (.bool false)) false S r = r := rfl
theorem vG_tf (r : Option (T × Store)) : vG (.sc (.bool true)) false S r = some (.tup [], S) := rfl
theorem vG_ft (r : Option (T × Store)) : vG (.sc (.bool false)) true S r = some (.tup [], S) := rfl
theorem RG_t (w : Bool) (d : Option Nat) (x : X) (r : List LOp) : RG E L n (.tup []) w d x r ks s S = RO E L n r ks ⟨putX s d (.tup []), S⟩ := rfl
theorem leave_s (kl lv sn : List Nat) : leaveSt L ⟨kl, lv, sn, false⟩ st = ⟨keepL lv st.s, st.S⟩ := rfl
theorem leave_h (kl lv sn : List Nat) : leaveSt L ⟨kl, lv, sn, true⟩ st = headSt L ⟨kl, lv, sn, true⟩ st := rfl
theorem keep_nil : keepL [] s = [] := rfl
theorem keep_cons (d : Nat) (r : List Nat) : keepL (d :: r) s = (d, get s d) :: keepL r s := rfl
theorem head_e (kl lv : List Nat) (b : Bool) : headSt L ⟨kl, lv, [], b⟩ ⟨s, emp⟩ = ⟨maskL L kl lv s emp, emp⟩ := head_emp L _ _ rfl rfl
theorem maskL_nil (kl : List Nat) : maskL L kl [] s S = [] := rfl
theorem maskL_cons (kl : List Nat) (d : Nat) (r : List Nat) : maskL L kl (d :: r) s S = (d, rename S (maskF L kl) (fun m => m.1 == L) (get s d)) :: maskL L kl r s S := rfl
def finR (L : Nat) (z : Bool) (rs : List RV) : Option (Ex × St) → Option (T × Store)
 | some (.exit _, _) | none => none
 | some (_, st) => match resR st.s st.S rs with
  | some ts => hand z (L + 1) (oneT ts) st.S
  | none => none
def argS : Nat → List T → Slots
 | _, [] => []
 | k, x :: r => (k, x) :: argS (k + 1) r
theorem argS_zip : ∀ (args : List T) (k : Nat), (List.range' k args.length).zip args = argS k args
 | [], k => rfl
 | x :: r, k => by rw [List.length_cons, List.range'_succ, List.zip_cons_cons, argS_zip r (k + 1)]; rfl
theorem argS_nil (k : Nat) : argS k [] = [] := rfl
theorem argS_cons (k : Nat) (x : T) (r : List T) : argS k (x :: r) = (k, x) :: argS (k + 1) r := rfl
theorem evF_R (F : LF) (args : List T) : evF E.P (callF E) E.om L F args S = finR L F.z F.r (R E (L + 1) F.n F.c [] ⟨argS 0 args, S⟩) := by
 rw [← argS_zip, ← List.range_eq_range']
 simp only [R, evF, finR, RM_nil]
 rcases evL' E.P (callF E) E.om (L + 1) F.n F.c ⟨(List.range args.length).zip args, S⟩ with _ | ⟨x, y⟩
 ·rfl
 ·cases x <;> rfl
def q_resK (L : Nat) (z : Bool) (S : Store) : Option (List T) → Option (T × Store)
 | some ts => hand z (L + 1) (oneT ts) S
 | none => none
theorem fin_r (z : Bool) (rs : List RV) : finR L z rs (some (.ret, st)) = q_resK L z st.S (resR st.s st.S rs) := by
 rfl
theorem fin_n (z : Bool) (rs : List RV) : finR L z rs (some (.nrm, st)) = q_resK L z st.S (resR st.s st.S rs) := by
 rfl
theorem resK_some (z : Bool) (ts : List T) : q_resK L z S (some ts) = hand z (L + 1) (oneT ts) S := rfl
def q_handK (n : Nat) (S : Store) : Option (T × List Loc) → Option (T × Store)
 | some (u, ls) => pack n u (setRo S ls)
 | none => none
theorem hand_f (n : Nat) (r : T) : hand false n r S = pack n r S := rfl
theorem q_hand_t (n : Nat) (r : T) : hand true n r S = q_handK n S (snapR S r) := rfl
theorem handK_some (n : Nat) (u : T) (ls : List Loc) : q_handK n S (some (u, ls)) = pack n u (setRo S ls) := rfl
def snU : Option (List T × List Loc) → Option (T × List Loc)
 | some (ds, ls) => some (.tup ds, ls)
 | none => none
theorem snapR_tup (cs : List T) : snapR S (.tup cs) = snU (snapL S cs) := by
 simp only [snapR, snU]; cases snapL S cs <;> rfl
theorem snU_some (ds : List T) (ls : List Loc) : snU (some (ds, ls)) = some (.tup ds, ls) := rfl
theorem snapR_sc (v : Value) : snapR S (.sc v) = some (.sc v, []) := rfl
theorem snapR_agg (cs : List T) : snapR S (.agg cs) = snap S (.agg cs) := rfl
theorem snapR_own (l : Loc) (g o k : Nat) : snapR S (.own l g o k) = snap S (.own l g o k) := rfl
theorem snapR_lst (sz : Nat) (xs : List T) : snapR S (.lst sz xs) = some (.lst sz xs, []) := rfl
theorem snapR_ptr (l : Loc) (o : Nat) : snapR S (.ptr l o) = some (.ptr l o, []) := rfl
theorem snapR_clo (f : FuncId) (cs : List T) : snapR S (.clo f cs) = some (.clo f cs, []) := rfl
def rc1 (r : T) : Option (List T) → Option (List T)
 | some l => some (r :: l)
 | none => none
def rc2 : Option T → Option (List T) → Option (List T)
 | some x, some l => some (x :: l)
 | _, _ => none
theorem resR_nil : resR s S [] = some [] := rfl
theorem resR_t (t : Nat) (r : List RV) : resR s S (.tmp t :: r) = rc1 (get s t) (resR s S r) := by
 simp only [resR, rc1]; cases resR s S r <;> rfl
theorem resR_c (a : Nat) (ag : Bool) (k : Nat) (r : List RV) : resR s S (.cell a ag k :: r) = rc2 (loadR ag k S (get s a)) (resR s S r) := by
 simp only [resR, rc2]; cases loadR ag k S (get s a) <;> cases resR s S r <;> rfl
theorem rc1_some (r : T) (l : List T) : rc1 r (some l) = some (r :: l) := rfl
theorem rc2_some (r : T) (l : List T) : rc2 (some r) (some l) = some (r :: l) := rfl
theorem one_1 (t : T) : oneT [t] = t := rfl
theorem one_2 (a b : T) (l : List T) : oneT (a :: b :: l) = .tup (a :: b :: l) := rfl
theorem one_0 : oneT [] = .tup [] := rfl
def packX (n : Nat) (r : T) (S : Store) (ls : List Loc) (b : Bool) : Option (T × Store) :=
 match ls, b with
 | [], true => some (r, trunc (n - 1) S)
 | l :: ls, true => if packOk n (l :: ls) S = true then some (rename S (packF n (l :: ls) n 0) (fun p => p.1 == n) r, addS n (l :: ls) n 0 S (trunc (n - 1) S)) else none
 | _, false => none
theorem pack_eq (n : Nat) (r : T) : pack n r S = packX n r S (dedup (locsOf n r)) (lvle n r) := by
 cases hl : lvle n r with
 | false => simp [pack, packX, hl]
 | true =>
  cases hd : dedup (locsOf n r) with
  | nil =>
   have h1 : locsOf n r = [] := by
    cases hh : locsOf n r with
    | nil => rfl
    | cons x xs => rw [hh] at hd; simp [dedup] at hd
   rw [pack_pl h1 hl]; rfl
  | cons l ls =>
   simp only [pack, packX, hl, hd, Bool.and_true]
theorem packX_nil (n : Nat) (r : T) : packX n r S [] true = some (r, trunc (n - 1) S) := rfl
theorem packX_cons (n : Nat) (r : T) (l : Loc) (ls : List Loc) : packX n r S (l :: ls) true = if packOk n (l :: ls) S = true then some (rename S (packF n (l :: ls) n 0) (fun p => p.1 == n) r, addS n (l :: ls) n 0 S (trunc (n - 1) S)) else none := rfl
def takeX (n L : Nat) (d : Option Tmp) (r : T) (S1 S : Store) (ls : List Loc) (b : Bool) : Option (T × Store) :=
 match ls, b with
 | [], true => some (r, S)
 | ls, b => takeIn n L d r S1 S
theorem takeIn_eq (k : Nat) (d : Option Tmp) (r : T) (S1 : Store) : takeIn k L d r S1 S = takeX k L d r S1 S (dedup (locsOf k r)) (lvle k r) := by
 unfold takeX
 split
 ·rename_i h1 h2; simp [takeIn, h1, h2]
 ·rfl
theorem takeX_nil (k : Nat) (d : Option Tmp) (r : T) (S1 : Store) : takeX k L d r S1 S [] true = some (r, S) := rfl
def goE (L : Nat) (d : Option Nat) (ls : List Loc) (S : Store) : Option (T × Store) → Option (T × Store)
 | some (r, S1) => takeIn 1 L d r S1 (keepS ls r S1 S)
 | none => none
def goU (L : Nat) (d : Option Nat) : Option (T × Store) → Option (T × Store)
 | some (r, S1) => takeIn (L + 1) L d r S1 (trunc L S1)
 | none => none
def lowTake2 (L : Nat) (d : Option Tmp) (r : T) (S1 S : Store) : Option (T × Store) := lowTake L d r S1 S
def goL (L : Nat) (d : Option Nat) (S : Store) : Option (T × Store) → Option (T × Store)
 | some (r, S1) => lowTake L d r S1 (lay (L - 1) S1 S)
 | none => none
noncomputable def goV (E : Env) (L : Nat) (d : Option Nat) (f : FuncId) (as : List T) (S : Store) : Option Loc → Option (T × Store)
 | some l => (goW (callF E) L d f as S (some l)).map fun r => (r.t, r.S)
 | none => goU L d (callF E L f as S)
noncomputable def goS (E : Env) (L : Nat) (d : Option Nat) (S : Store) (f : FuncId) (caps : List T) : Option (List T × List Loc) → Option (T × Store)
 | some (bs, ls) => if plainC L (E.om f) bs caps = true then goE L d ls S (callF E 0 f bs emp) else if lowC L (E.om f) (bs ++ caps) = true then goL L d (setRo S ls) (callF E (L - 1) f (bs ++ caps) (trunc (L - 1) (setRo S ls))) else goV E L d f (bs ++ caps) (setRo S ls) (shut1 (E.om f) bs caps)
 | none => none
theorem goT_map (d : Option Nat) (f : FuncId) (as caps : List T) : (goT (callF E) E.om L d S f as caps).map (fun r => (r.t, r.S)) = goS E L d S f caps (snapArgs (E.om f) S 0 as) := by
 unfold goT goS
 cases snapArgs (E.om f) S 0 as with
 | none => rfl
 | some p =>
  obtain ⟨bs, ls⟩ := p
  simp only []
  split
  ·cases callF E 0 f bs emp with
   | none => rfl
   | some q => simp only [goE]; cases takeIn 1 L d q.1 q.2 (keepS ls q.1 q.2 S) <;> rfl
  ·split
   ·cases callF E (L - 1) f (bs ++ caps) (trunc (L - 1) (setRo S ls)) with
    | none => rfl
    | some q => simp only [goL]; cases lowTake L d q.1 q.2 (lay (L - 1) q.2 (setRo S ls)) <;> rfl
   ·cases shut1 (E.om f) bs caps with
    | some l => rfl
    | none =>
     simp only [goW, goV]
     cases callF E L f (bs ++ caps) (setRo S ls) with
     | none => rfl
     | some q => simp only [goU]; cases takeIn (L + 1) L d q.1 q.2 (trunc L q.2) <;> rfl
theorem call_f {f : FuncId} {as : List T} {d : Option Nat} : callX (callF E) E.om L d S (some (.sc (.func (.func f) #[] #[]))) (some as) = goS E L d S f [] (snapArgs (E.om f) S 0 as) := goT_map d f as []
theorem call_c {f : FuncId} {caps as : List T} {d : Option Nat} : callX (callF E) E.om L d S (some (.clo f caps)) (some as) =
  bif Nat.blt f 1000000000 then goS E L d S f caps (snapArgs (E.om f) S 0 as) else goS E L d S (Nat.sub f 1000000000) [] (snapArgs (E.om (Nat.sub f 1000000000)) S 0 (caps ++ as)) := by
 show (bif Nat.blt f 1000000000 then goT (callF E) E.om L d S f as caps else goT (callF E) E.om L d S (Nat.sub f 1000000000) (caps ++ as) []).map _ = _
 cases Nat.blt f 1000000000 with
 | true => exact goT_map d f as caps
 | false => exact goT_map d _ (caps ++ as) []
theorem goS_some {f : FuncId} {caps bs : List T} {ls : List Loc} {d : Option Nat} : goS E L d S f caps (some (bs, ls)) = if plainC L (E.om f) bs caps = true then goE L d ls S (callF E 0 f bs emp) else if lowC L (E.om f) (bs ++ caps) = true then goL L d (setRo S ls) (callF E (L - 1) f (bs ++ caps) (trunc (L - 1) (setRo S ls))) else goV E L d f (bs ++ caps) (setRo S ls) (shut1 (E.om f) bs caps) := rfl
theorem goV_none {f : FuncId} {as : List T} {d : Option Nat} : goV E L d f as S none = goU L d (callF E L f as S) := rfl
theorem shut1_nil (as caps : List T) : shut1 [] as caps = none := rfl
theorem shut1_cons (x : Nat) (r : List Nat) (as caps : List T) : shut1 (x :: r) as caps = bif (x :: r).contains 2000 && closedL as then ptr1 caps else none := rfl
theorem plainC_nil (as caps : List T) : plainC L [] as caps = (closedL as && caps.isEmpty) := by unfold plainC; simp
theorem plainC_0 (om : List Nat) (as caps : List T) : plainC 0 om as caps = (closedL as && caps.isEmpty) := by unfold plainC; rw [show Nat.ble 1 0 = false from rfl]; simp
theorem plainC_cons (x : Nat) (r : List Nat) (as caps : List T) : plainC L (x :: r) as caps = (closedL as && caps.isEmpty && !((x :: r).contains 3000 && Nat.ble 1 L)) := rfl
theorem lowC_nil (as : List T) : lowC L [] as = false := rfl
theorem lowC_cons (x : Nat) (r : List Nat) (as : List T) : lowC L (x :: r) as = ((x :: r).contains 1000 && (Nat.blt 0 L && lvleL (L - 1) as)) := by unfold lowC; rw [Bool.and_assoc]
theorem blt_0s (k : Nat) : Nat.blt 0 (k + 1) = true := rfl
theorem goL_some {r : T} {S1 : Store} {d : Option Nat} : goL L d S (some (r, S1)) = if lvle (L - 1) r = true then some (r, lay (L - 1) S1 S) else lowTake2 L d r S1 (lay (L - 1) S1 S) := by
 show lowTake L d r S1 (lay (L - 1) S1 S) = _
 split
 ·rename_i h; unfold lowTake; rw [if_pos h]
 ·rfl
theorem lay_emp (S1 : Store) (h : trunc L S1 = S1) : lay L S1 emp = S1 := by
 funext l
 unfold lay emp
 by_cases hl : l.1 ≤ L
 ·rw [Nat.ble_eq_true_of_le hl]; rfl
 ·have : Nat.ble l.1 L = false := by
   cases hb : Nat.ble l.1 L with
   | false => rfl
   | true => exact absurd (Nat.le_of_ble_eq_true hb) hl
  rw [this]
  have h2 := congrFun h l
  unfold trunc at h2
  rw [if_neg hl] at h2
  exact h2
theorem lay_low (S1 : Store) (k d : Nat) (o : Obj) (h : k ≤ L) : lay L (upd S1 (k, d) o) S = upd (lay L S1 S) (k, d) o := by
 funext l
 unfold lay upd
 by_cases hl : l = (k, d)
 ·subst hl; simp only [if_true, Nat.ble_eq_true_of_le h]; rfl
 ·simp only [if_neg hl]
theorem lay_up (S1 : Store) (k d : Nat) (o : Obj) (h : L < k) : lay L S1 (upd S (k, d) o) = upd (lay L S1 S) (k, d) o := by
 funext l
 unfold lay upd
 by_cases hl : l = (k, d)
 ·subst hl
  have : Nat.ble k L = false := by
   cases hb : Nat.ble k L with
   | false => rfl
   | true => exact absurd (Nat.le_of_ble_eq_true hb) (by omega)
  simp only [if_true, this]; rfl
 ·simp only [if_neg hl]
theorem lay_same : lay L S S = S := by funext l; unfold lay; cases Nat.ble l.1 L <;> rfl
theorem goE_some {ls : List Loc} {d : Option Nat} {r : T} {S1 : Store} : goE L d ls S (some (r, S1)) = takeIn 1 L d r S1 (keepS ls r S1 S) := rfl
theorem goU_some {d : Option Nat} {r : T} {S1 : Store} : goU L d (some (r, S1)) = takeIn (L + 1) L d r S1 (trunc L S1) := rfl
theorem keepS_nil {r : T} {S1 : Store} : keepS [] r S1 S = S := rfl
def sn1 (b : Bool) (x : T) (p : Option (T × List Loc)) : Option (T × List Loc) := if b = true then some (x, []) else p
def sn2 : Option (T × List Loc) → Option (List T × List Loc) → Option (List T × List Loc)
 | some (y, l), some (ys, ls) => some (y :: ys, l ++ ls)
 | _, _ => none
theorem snA_nil (om : List Nat) (j : Nat) : snapArgs om S j [] = some ([], []) := rfl
theorem snA_cons (om : List Nat) (j : Nat) (x : T) (xs : List T) : snapArgs om S j (x :: xs) = sn2 (sn1 (om.contains j) x (snap S x)) (snapArgs om S (j + 1) xs) := by
 simp only [snapArgs, sn1]
 cases om.contains j <;> simp only [Bool.false_eq_true, if_true, if_false] <;> rfl
theorem sn2_some (y : T) (l : List Loc) (ys : List T) (ls : List Loc) : sn2 (some (y, l)) (some (ys, ls)) = some (y :: ys, l ++ ls) := rfl
theorem sn1_f (x : T) (p : Option (T × List Loc)) : sn1 false x p = p := rfl
theorem sn1_t (x : T) (p : Option (T × List Loc)) : sn1 true x p = some (x, []) := rfl
theorem snap_sc (v : Value) : snap S (.sc v) = some (.sc v, []) := rfl
theorem snap_lst (sz : Nat) (xs : List T) : snap S (.lst sz xs) = some (.lst sz xs, []) := rfl
theorem snap_ptr (l : Loc) (o : Nat) : snap S (.ptr l o) = some (.ptr l o, []) := rfl
theorem snap_clo (f : FuncId) (cs : List T) : snap S (.clo f cs) = some (.clo f cs, []) := rfl
def snG : Option (List T × List Loc) → Option (T × List Loc)
 | some (ds, ls) => some (.agg ds, ls)
 | none => none
theorem snap_agg (cs : List T) : snap S (.agg cs) = snG (snapL S cs) := by
 simp only [snap, snG]; cases snapL S cs <;> rfl
theorem snG_some (ds : List T) (ls : List Loc) : snG (some (ds, ls)) = some (.agg ds, ls) := rfl
theorem snapL_nil : snapL S [] = some ([], []) := rfl
theorem snapL_cons (x : T) (xs : List T) : snapL S (x :: xs) = sn2 (snap S x) (snapL S xs) := by
 simp only [snapL, sn2]
 cases snap S x <;> cases snapL S xs <;> rfl
def snO (g off len : Nat) (l : Loc) : Option Obj → Option (T × List Loc)
 | some (.arr _ g' sz _ xs) => if g = g' ∧ off + len ≤ xs.length then some (.lst sz ((xs.drop off).take len), [l]) else none
 | _ => none
theorem q_snap_own (l : Loc) (g off len : Nat) : snap S (.own l g off len) = snO g off len l (S l) := by
 simp only [snap, snO]
 cases S l with
 | none => rfl
 | some o => cases o <;> rfl
theorem snO_arr (g off len : Nat) (l : Loc) (ro : Bool) (g' sz : Nat) (e : TypeId) (xs : List T) : snO g off len l (some (.arr ro g' sz e xs)) = if g = g' ∧ off + len ≤ xs.length then some (.lst sz ((xs.drop off).take len), [l]) else none := rfl
theorem closed_sc (v : Value) : closed (.sc v) = isSc v := by simp [closed]
theorem closed_lst (sz : Nat) (xs : List T) : closed (.lst sz xs) = closedL xs := by simp [closed]
theorem closed_agg (cs : List T) : closed (.agg cs) = (closedL cs && cs.all one) := by simp [closed]
theorem closed_ptr (l : Loc) (o : Nat) : closed (.ptr l o) = false := rfl
theorem closed_clo (f : FuncId) (cs : List T) : closed (.clo f cs) = false := rfl
theorem closed_own (l : Loc) (g o k : Nat) : closed (.own l g o k) = false := rfl
theorem closedL_nil : closedL [] = true := rfl
theorem closedL_cons (x : T) (xs : List T) : closedL (x :: xs) = (closed x && closedL xs) := by simp [closedL]
theorem isSc_int (k : IntKind) (i : Int) : isSc (.int k i) = true := rfl
theorem isSc_bool (b : Bool) : isSc (.bool b) = true := rfl
theorem isSc_str (l : List UInt8) : isSc (str l) = true := rfl
theorem isSc_nil : isSc (.slice none 0 0) = true := rfl
theorem isSc_fn (f : FuncId) : isSc (.func (.func f) #[] #[]) = true := rfl
theorem locs_sc (k : Nat) (v : Value) : locsOf k (.sc v) = [] := rfl
theorem locs_lst (k sz : Nat) (xs : List T) : locsOf k (.lst sz xs) = [] := rfl
theorem locs_lptr (k sz : Nat) (xs : List T) (i o : Nat) : locsOf k (.lptr sz xs i o) = [] := rfl
theorem locs_undef (k : Nat) : locsOf k .undef = [] := rfl
theorem locs_own (k : Nat) (l : Loc) (g o m : Nat) : locsOf k (.own l g o m) = if l.1 = k then [l] else [] := rfl
theorem locs_ptr (k : Nat) (l : Loc) (o : Nat) : locsOf k (.ptr l o) = if l.1 = k then [l] else [] := rfl
theorem locs_agg (k : Nat) (cs : List T) : locsOf k (.agg cs) = locsOfL k cs := rfl
theorem locs_clo (k : Nat) (f : FuncId) (cs : List T) : locsOf k (.clo f cs) = locsOfL k cs := rfl
theorem lv_clo (k : Nat) (f : FuncId) (cs : List T) : lvle k (.clo f cs) = lvleL k cs := rfl
theorem locs_tup (k : Nat) (cs : List T) : locsOf k (.tup cs) = locsOfL k cs := rfl
theorem locsL_nil (k : Nat) : locsOfL k [] = [] := rfl
theorem locsL_cons (k : Nat) (x : T) (xs : List T) : locsOfL k (x :: xs) = locsOf k x ++ locsOfL k xs := rfl
theorem dedup_nil : dedup [] = [] := rfl
theorem dedup_cons (l : Loc) (r : List Loc) : dedup (l :: r) = l :: (dedup r).filter (· != l) := rfl
theorem lv_tup (k : Nat) (cs : List T) : lvle k (.tup cs) = lvleL k cs := rfl
theorem lv_lst (k sz : Nat) (xs : List T) : lvle k (.lst sz xs) = true := rfl
theorem lv_own (k : Nat) (l : Loc) (g o m : Nat) : lvle k (.own l g o m) = decide (l.1 ≤ k) := rfl
theorem lv_ptr (k : Nat) (l : Loc) (o : Nat) : lvle k (.ptr l o) = decide (l.1 ≤ k) := rfl
theorem lv_undef (k : Nat) : lvle k .undef = true := rfl
theorem ren_sc (f : Loc → Option Loc) (z : Loc → Bool) (v : Value) : rename S f z (.sc v) = .sc v := rfl
theorem ren_lst (f : Loc → Option Loc) (z : Loc → Bool) (sz : Nat) (xs : List T) : rename S f z (.lst sz xs) = .lst sz xs := rfl
theorem ren_lptr (f : Loc → Option Loc) (z : Loc → Bool) (sz : Nat) (xs : List T) (i o : Nat) : rename S f z (.lptr sz xs i o) = .lptr sz xs i o := rfl
theorem ren_undef (f : Loc → Option Loc) (z : Loc → Bool) : rename S f z .undef = .undef := rfl
theorem ren_agg (f : Loc → Option Loc) (z : Loc → Bool) (cs : List T) : rename S f z (.agg cs) = .agg (renameL S f z cs) := rfl
theorem ren_tup (f : Loc → Option Loc) (z : Loc → Bool) (cs : List T) : rename S f z (.tup cs) = .tup (renameL S f z cs) := rfl
theorem ren_clo (f : Loc → Option Loc) (z : Loc → Bool) (g : FuncId) (cs : List T) : rename S f z (.clo g cs) = .clo g (renameL S f z cs) := rfl
theorem renL_nil (f : Loc → Option Loc) (z : Loc → Bool) : renameL S f z [] = [] := rfl
theorem renL_cons (f : Loc → Option Loc) (z : Loc → Bool) (x : T) (xs : List T) : renameL S f z (x :: xs) = rename S f z x :: renameL S f z xs := rfl
def renP (m : Option Loc) (o : Nat) : T := match m with
 | some m => .ptr m o
 | none => .undef
def renO (m : Option Loc) (b : Bool) (g o k : Nat) (ob : Option Obj) : T := match m with
 | some m => if b = true then (match ob with
   | some (.arr _ g' _ _ _) => if g = g' then .own m 0 o k else .undef
   | _ => .undef) else .own m g o k
 | none => .undef
theorem ren_ptr (f : Loc → Option Loc) (z : Loc → Bool) (l : Loc) (o : Nat) : rename S f z (.ptr l o) = renP (f l) o := rfl
theorem ren_own (f : Loc → Option Loc) (z : Loc → Bool) (l : Loc) (g o k : Nat) : rename S f z (.own l g o k) = renO (f l) (z l) g o k (S l) := by
 simp only [rename, renO]
 cases f l with
 | none => rfl
 | some m => cases S l with
  | none => rfl
  | some ob => cases ob <;> rfl
theorem renP_some (m : Loc) (o : Nat) : renP (some m) o = .ptr m o := rfl
theorem renO_t (m : Loc) (g o k : Nat) (ro : Bool) (g' sz : Nat) (e : TypeId) (xs : List T) : renO (some m) true g o k (some (.arr ro g' sz e xs)) = if g = g' then .own m 0 o k else .undef := rfl
theorem renO_f (m : Loc) (g o k : Nat) (ob : Option Obj) : renO (some m) false g o k ob = .own m g o k := rfl
theorem maskF_ap (kl : List Nat) (l : Loc) : maskF L kl l = if l.1 = L then (if kl.contains l.2 then some l else none) else some l := rfl
def maskT (L : Nat) (kl : List Nat) (S0 S : Store) : Store := fun l =>
 if l.1 = L then (if kl.contains l.2 then (S l).map (renObj S0 (maskF L kl) (fun m => m.1 == L)) else none) else S l
theorem head_s (kl lv : List Nat) (b : Bool) : headSt L ⟨kl, lv, [], b⟩ ⟨s, S⟩ = ⟨maskL L kl lv s S, maskT L kl S S⟩ := by
 simp only [headSt, headOf, boxAll, snapAll, setRo_nil]; rfl
theorem maskT_emp (kl : List Nat) (S0 : Store) : maskT L kl S0 emp = emp := by
 funext l; simp [maskT, emp]
theorem maskT_upd (kl : List Nat) (S0 : Store) (d : Nat) (ob : Obj) : maskT L kl S0 (upd S (L, d) ob) = if kl.contains d = true then upd (maskT L kl S0 S) (L, d) (renObj S0 (maskF L kl) (fun m => m.1 == L) ob) else maskT L kl S0 S := by
 funext l
 by_cases hl : l = (L, d)
 ·subst hl
  by_cases hk : kl.contains d = true
  ·rw [if_pos hk]; simp only [maskT, upd, if_true, hk, Option.map_some]
  ·rw [if_neg hk]; simp only [maskT, if_true, hk]; rfl
 ·by_cases hk : kl.contains d = true
  ·rw [if_pos hk]; simp only [maskT, upd, if_neg hl]
  ·rw [if_neg hk]; simp only [maskT, upd, if_neg hl]
theorem maskT_low (kl : List Nat) (S0 : Store) (m d : Nat) (ob : Obj) (h : m < L) : maskT L kl S0 (upd S (m, d) ob) = upd (maskT L kl S0 S) (m, d) ob := by
 funext l
 by_cases hl : l = (m, d)
 ·subst hl; simp [maskT, upd]; omega
 ·simp only [maskT, upd, if_neg hl]
theorem maskT_trunc (kl : List Nat) (S0 : Store) (m : Nat) (h : m < L) : maskT L kl S0 (trunc m S) = trunc m S := by
 funext l
 unfold maskT trunc
 by_cases hl : l.1 ≤ m
 ·rw [if_neg (by omega)]
 ·simp [hl]
theorem ren_box (f : Loc → Option Loc) (z : Loc → Bool) (bt : TypeId) (cs : List T) : renObj S f z (.box bt cs) = .box bt (renameL S f z cs) := rfl
theorem ren_arr (f : Loc → Option Loc) (z : Loc → Bool) (ro : Bool) (g sz : Nat) (e : TypeId) (xs : List T) : renObj S f z (.arr ro g sz e xs) = .arr ro 0 sz e xs := rfl
theorem trunc_low (m k d : Nat) (ob : Obj) (h : m < k) : trunc m (upd S (k, d) ob) = trunc m S := trunc_upd h
theorem trunc_keep (m k d : Nat) (ob : Obj) (h : k ≤ m) : trunc m (upd S (k, d) ob) = upd (trunc m S) (k, d) ob := by
 funext l
 by_cases hl : l = (k, d)
 ·subst hl; simp [trunc, upd, h]
 ·simp only [trunc, upd, if_neg hl]
theorem trunc_trunc (m k : Nat) (h : m ≤ k) : trunc m (trunc k S) = trunc m S := by
 funext l; unfold trunc; by_cases hl : l.1 ≤ m
 ·have : l.1 ≤ k := by omega
  simp [hl, this]
 ·simp [hl]
def headB (L : Nat) (a : Head) (sn : List Nat) (s : Slots) (S : Store) : St := headOf L a (snapAll S sn s) S
theorem head_sn (kl lv : List Nat) (d : Nat) (r : List Nat) (b : Bool) : headSt L ⟨kl, lv, d :: r, b⟩ ⟨s, S⟩ = headB L ⟨kl, lv, d :: r, b⟩ (d :: r) s (boxAll L (d :: r) S) := rfl
theorem headB_eq (a : Head) (sn : List Nat) : headB L a sn s S = headOf L a (snapAll S sn s) S := rfl
theorem boxAll_nil : boxAll L [] S = S := rfl
theorem boxAll_cons (d : Nat) (r : List Nat) : boxAll L (d :: r) S = boxAll L r (boxOne L S d) := rfl
theorem boxOne_lo (d : Nat) (h : OfNat.ofNat d < (10000000 : Nat)) : boxOne L S (no_index (OfNat.ofNat d)) = S := by unfold boxOne; rw [if_pos h]
def bxO (L d : Nat) (S : Store) : Option Obj → Store
 | some (.box bt cs) => match snapL S cs with
  | some (us, ls) => upd (setRo S ls) (L, d) (.box bt us)
  | none => S
 | _ => S
def bxP (L d : Nat) (S : Store) (bt : TypeId) : Option (List T × List Loc) → Store
 | some (us, ls) => upd (setRo S ls) (L, d) (.box bt us)
 | none => S
theorem boxOne_hi (d : Nat) (h : ¬ OfNat.ofNat d < (10000000 : Nat)) : boxOne L S (no_index (OfNat.ofNat d)) = bxO L (OfNat.ofNat d - 10000000) S (S (L, OfNat.ofNat d - 10000000)) := by
 have : ∀ d, ¬ d < 10000000 → boxOne L S d = bxO L (d - 10000000) S (S (L, d - 10000000)) := by
  intro d h
  unfold boxOne bxO; rw [if_neg h]; rfl
 exact this _ h
theorem bxO_box (d : Nat) (bt : TypeId) (cs : List T) : bxO L d S (some (.box bt cs)) = bxP L d S bt (snapL S cs) := rfl
theorem bxP_some (d : Nat) (bt : TypeId) (us : List T) (ls : List Loc) : bxP L d S bt (some (us, ls)) = upd (setRo S ls) (L, d) (.box bt us) := rfl
def snD (d : Nat) (q : Slots × List Loc) : Option (T × List Loc) → Slots × List Loc
 | some (u, ls) => ((d, u) :: q.1, ls ++ q.2)
 | none => q
theorem snapAll_nil : snapAll S [] s = (s, []) := rfl
theorem snapAll_cons (d : Nat) (r : List Nat) : snapAll S (d :: r) s = snD d (snapAll S r s) (snap S (get s d)) := by
 simp only [snapAll, snD]; cases snap S (get s d) <;> rfl
theorem snD_some (d : Nat) (q : Slots) (ls : List Loc) (u : T) (ls' : List Loc) : snD d (q, ls) (some (u, ls')) = ((d, u) :: q, ls' ++ ls) := rfl
theorem headOf_eq (kl lv sn : List Nat) (b : Bool) (q : Slots) (ls : List Loc) : headOf L ⟨kl, lv, sn, b⟩ (q, ls) S = ⟨maskL L kl lv q (setRo S ls), maskT L kl (setRo S ls) (setRo S ls)⟩ := rfl
theorem snap_undef : snap S .undef = some (.undef, []) := rfl
theorem snap_tup (cs : List T) : snap S (.tup cs) = some (.tup cs, []) := rfl
theorem snap_lptr (sz : Nat) (xs : List T) (i o : Nat) : snap S (.lptr sz xs i o) = some (.lptr sz xs i o, []) := rfl
theorem snap_aptr (l : Loc) (g i o : Nat) : snap S (.aptr l g i o) = some (.aptr l g i o, []) := rfl
theorem setRo_em (ls : List Loc) : setRo emp ls = emp := setRo_emp ls
theorem setRo_box (l : Loc) (bt : TypeId) (cs : List T) (ls : List Loc) : setRo (upd S l (.box bt cs)) ls = upd (setRo S ls) l (.box bt cs) := by
 funext m; by_cases h : m = l
 ·subst h; simp [setRo, upd]
 ·simp [setRo, upd, h]
theorem setRo_upd_arr (l : Loc) (ro : Bool) (g sz : Nat) (e : TypeId) (xs : List T) (ls : List Loc) : setRo (upd S l (.arr ro g sz e xs)) ls = upd (setRo S ls) l (.arr (ro || ls.contains l) g sz e xs) := by
 funext m; by_cases h : m = l
 ·subst h; simp [setRo, upd]
 ·simp [setRo, upd, h]
theorem setRo_n : setRo S [] = S := setRo_nil S
def updI (S : Store) (l : Loc) (o : Obj) : Store := upd S l o
theorem updI_eq (l : Loc) (o : Obj) : updI S l o = upd S l o := rfl
theorem upd_sort (m d d' : Nat) (a b : Obj) (h : d < d') : upd (upd S (m, d') b) (m, d) a = upd (updI S (m, d) a) (m, d') b := by
 funext l
 unfold updI upd
 by_cases h1 : l = (m, d)
 ·have : ¬ l = (m, d') := by rw [h1]; simp; omega
  simp [h1]; omega
 ·simp [h1]
theorem upd_sort2 (m k d d' : Nat) (a b : Obj) (h : m < k) : upd (upd S (k, d') b) (m, d) a = upd (updI S (m, d) a) (k, d') b := by
 funext l
 unfold updI upd
 by_cases h1 : l = (m, d)
 ·have : ¬ l = (k, d') := by rw [h1]; simp; omega
  simp [h1]; omega
 ·simp [h1]
theorem mm_min (k : IntKind) (a b : Nat) : mmT false (.sc (.int k (a : Int))) (.sc (.int k (b : Int))) = some (.sc (.int k ((min a b : Nat) : Int))) := by
 simp only [mmT, cond_false]; congr 3; by_cases h : (b : Int) < a
 ·rw [if_pos h]; omega
 ·rw [if_neg h]; omega
theorem mm_min_l (k : IntKind) (a b : Nat) : mmT false (.sc (.int k (no_index (OfNat.ofNat a : Int)))) (.sc (.int k (b : Int))) = some (.sc (.int k ((min (OfNat.ofNat a) b : Nat) : Int))) := mm_min k a b
theorem mm_min_r (k : IntKind) (a b : Nat) : mmT false (.sc (.int k (a : Int))) (.sc (.int k (no_index (OfNat.ofNat b : Int)))) = some (.sc (.int k ((min a (OfNat.ofNat b) : Nat) : Int))) := mm_min k a b
theorem mm_max (k : IntKind) (a b : Nat) : mmT true (.sc (.int k (a : Int))) (.sc (.int k (b : Int))) = some (.sc (.int k ((max a b : Nat) : Int))) := by
 simp only [mmT, cond_true]; congr 3; by_cases h : (b : Int) > a
 ·rw [if_pos h]; omega
 ·rw [if_neg h]; omega
theorem mm_max_l (k : IntKind) (a b : Nat) : mmT true (.sc (.int k (no_index (OfNat.ofNat a : Int)))) (.sc (.int k (b : Int))) = some (.sc (.int k ((max (OfNat.ofNat a) b : Nat) : Int))) := mm_max k a b
theorem mm_max_r (k : IntKind) (a b : Nat) : mmT true (.sc (.int k (a : Int))) (.sc (.int k (no_index (OfNat.ofNat b : Int)))) = some (.sc (.int k ((max a (OfNat.ofNat b) : Nat) : Int))) := mm_max k a b
theorem wr_nat (a : Nat) (h : a < 2 ^ 63) : IntKind.i64.wrap (a : Int) = (a : Int) := by rw [IntKind.wrap_i64]; omega
theorem wr_add (a b : Nat) (h : a + b < 2 ^ 63) : IntKind.i64.wrap ((a : Int) + (b : Int)) = ((a + b : Nat) : Int) := by rw [IntKind.wrap_i64]; omega
theorem wr_add1 (a : Nat) (h : a + 1 < 2 ^ 63) : IntKind.i64.wrap ((a : Int) + 1) = ((a + 1 : Nat) : Int) := by rw [IntKind.wrap_i64]; omega
theorem wr_addn (a k : Nat) (h : a + OfNat.ofNat k < 2 ^ 63) : IntKind.i64.wrap ((a : Int) + no_index (OfNat.ofNat k : Int)) = ((a + OfNat.ofNat k : Nat) : Int) := by
 rw [IntKind.wrap_i64]
 have : ((OfNat.ofNat k : Nat) : Int) = (OfNat.ofNat k : Int) := rfl
 have h2 : (OfNat.ofNat k : Nat) = k := rfl
 rw [h2] at h
 rw [← this, h2]; omega
theorem wr_sub (a b : Nat) (h : b ≤ a) (h2 : a < 2 ^ 63) : IntKind.i64.wrap ((a : Int) - (b : Int)) = ((a - b : Nat) : Int) := by rw [IntKind.wrap_i64]; omega
theorem wr_sub1 (a : Nat) (h : 1 ≤ a) (h2 : a < 2 ^ 63) : IntKind.i64.wrap ((a : Int) - 1) = ((a - 1 : Nat) : Int) := by rw [IntKind.wrap_i64]; omega
theorem wr_subn (a k : Nat) (h : OfNat.ofNat k ≤ a) (h2 : a < 2 ^ 63) : IntKind.i64.wrap ((a : Int) - no_index (OfNat.ofNat k : Int)) = ((a - OfNat.ofNat k : Nat) : Int) := by
 rw [IntKind.wrap_i64]
 have : ((OfNat.ofNat k : Nat) : Int) = (OfNat.ofNat k : Int) := rfl
 have h3 : (OfNat.ofNat k : Nat) = k := rfl
 rw [h3] at h
 rw [← this, h3]; omega
theorem wr_in (x : Int) (h : -2 ^ 63 ≤ x) (h2 : x < 2 ^ 63) : IntKind.i64.wrap x = x := by rw [IntKind.wrap_i64]; omega
theorem n_lss (k : IntKind) (a b : Nat) : binT .lss (.sc (.int k (a : Int))) (.sc (.int k (b : Int))) = some (.sc (.bool (decide (a < b)))) := by
 have h : (((a : Int) < (b : Int) : Prop)) ↔ (a < b) := by omega
 simp [binT, binS, h]
theorem n_lss_l (k : IntKind) (a b : Nat) : binT .lss (.sc (.int k (a : Int))) (.sc (.int k (no_index (OfNat.ofNat b : Int)))) = some (.sc (.bool (decide (a < OfNat.ofNat b)))) := n_lss k a b
theorem n_lss_r (k : IntKind) (a b : Nat) : binT .lss (.sc (.int k (no_index (OfNat.ofNat a : Int)))) (.sc (.int k (b : Int))) = some (.sc (.bool (decide (OfNat.ofNat a < b)))) := n_lss k a b
theorem n_leq (k : IntKind) (a b : Nat) : binT .leq (.sc (.int k (a : Int))) (.sc (.int k (b : Int))) = some (.sc (.bool (decide (a ≤ b)))) := by
 have h : (((a : Int) ≤ (b : Int) : Prop)) ↔ (a ≤ b) := by omega
 simp [binT, binS, h]
theorem n_leq_l (k : IntKind) (a b : Nat) : binT .leq (.sc (.int k (a : Int))) (.sc (.int k (no_index (OfNat.ofNat b : Int)))) = some (.sc (.bool (decide (a ≤ OfNat.ofNat b)))) := n_leq k a b
theorem n_leq_r (k : IntKind) (a b : Nat) : binT .leq (.sc (.int k (no_index (OfNat.ofNat a : Int)))) (.sc (.int k (b : Int))) = some (.sc (.bool (decide (OfNat.ofNat a ≤ b)))) := n_leq k a b
theorem n_gtr (k : IntKind) (a b : Nat) : binT .gtr (.sc (.int k (a : Int))) (.sc (.int k (b : Int))) = some (.sc (.bool (decide (b < a)))) := by
 have h : (((b : Int) < (a : Int) : Prop)) ↔ (b < a) := by omega
 simp [binT, binS, h]
theorem n_gtr_l (k : IntKind) (a b : Nat) : binT .gtr (.sc (.int k (a : Int))) (.sc (.int k (no_index (OfNat.ofNat b : Int)))) = some (.sc (.bool (decide (OfNat.ofNat b < a)))) := n_gtr k a b
theorem n_gtr_r (k : IntKind) (a b : Nat) : binT .gtr (.sc (.int k (no_index (OfNat.ofNat a : Int)))) (.sc (.int k (b : Int))) = some (.sc (.bool (decide (b < OfNat.ofNat a)))) := n_gtr k a b
theorem n_geq (k : IntKind) (a b : Nat) : binT .geq (.sc (.int k (a : Int))) (.sc (.int k (b : Int))) = some (.sc (.bool (decide (b ≤ a)))) := by
 have h : (((b : Int) ≤ (a : Int) : Prop)) ↔ (b ≤ a) := by omega
 simp [binT, binS, h]
theorem n_geq_l (k : IntKind) (a b : Nat) : binT .geq (.sc (.int k (a : Int))) (.sc (.int k (no_index (OfNat.ofNat b : Int)))) = some (.sc (.bool (decide (OfNat.ofNat b ≤ a)))) := n_geq k a b
theorem n_geq_r (k : IntKind) (a b : Nat) : binT .geq (.sc (.int k (no_index (OfNat.ofNat a : Int)))) (.sc (.int k (b : Int))) = some (.sc (.bool (decide (b ≤ OfNat.ofNat a)))) := n_geq k a b
theorem n_eql (k : IntKind) (a b : Nat) : binT .eql (.sc (.int k (a : Int))) (.sc (.int k (b : Int))) = some (.sc (.bool (decide (a = b)))) := by
 by_cases h : a = b
 ·simp [binT, binS, h]
 ·have h2 : ¬ ((a : Int) = (b : Int)) := by omega
  simp [binT, binS, h, h2]
theorem n_eql_l (k : IntKind) (a b : Nat) : binT .eql (.sc (.int k (a : Int))) (.sc (.int k (no_index (OfNat.ofNat b : Int)))) = some (.sc (.bool (decide (a = OfNat.ofNat b)))) := n_eql k a b
theorem n_eql_r (k : IntKind) (a b : Nat) : binT .eql (.sc (.int k (no_index (OfNat.ofNat a : Int)))) (.sc (.int k (b : Int))) = some (.sc (.bool (decide (OfNat.ofNat a = b)))) := n_eql k a b
theorem n_neq (k : IntKind) (a b : Nat) : binT .neq (.sc (.int k (a : Int))) (.sc (.int k (b : Int))) = some (.sc (.bool (!decide (a = b)))) := by
 by_cases h : a = b
 ·simp [binT, binS, h]
 ·have h2 : ¬ ((a : Int) = (b : Int)) := by omega
  simp [binT, binS, h, bne, h2]
theorem n_neq_l (k : IntKind) (a b : Nat) : binT .neq (.sc (.int k (a : Int))) (.sc (.int k (no_index (OfNat.ofNat b : Int)))) = some (.sc (.bool (!decide (a = OfNat.ofNat b)))) := n_neq k a b
theorem n_neq_r (k : IntKind) (a b : Nat) : binT .neq (.sc (.int k (no_index (OfNat.ofNat a : Int)))) (.sc (.int k (b : Int))) = some (.sc (.bool (!decide (OfNat.ofNat a = b)))) := n_neq k a b
def sub (l : List UInt8) (a b : Nat) : List UInt8 := (l.take b).drop a
theorem cut_sub (l : List UInt8) (k1 k2 : IntKind) (a b : Nat) (h1 : a ≤ b) (h2 : b ≤ l.length) : cutST (some (.sc (str l))) (some (some (.sc (.int k1 a)))) (some (some (.sc (.int k2 b)))) = some (.sc (str (sub l a b))) := cut_ll l k1 k2 a b h1 h2
theorem cut_ln_l (l : List UInt8) (k1 : IntKind) (a : Nat) (h1 : OfNat.ofNat a ≤ l.length) : cutST (some (.sc (str l))) (some (some (.sc (.int k1 (no_index (OfNat.ofNat a : Int)))))) (some none) = some (.sc (str (l.drop (OfNat.ofNat a)))) := cut_ln l k1 a h1
theorem cut_nl_l (l : List UInt8) (k1 : IntKind) (a : Nat) (h1 : OfNat.ofNat a ≤ l.length) : cutST (some (.sc (str l))) (some none) (some (some (.sc (.int k1 (no_index (OfNat.ofNat a : Int)))))) = some (.sc (str (l.take (OfNat.ofNat a)))) := cut_nl l k1 a h1
theorem cut_sub_l (l : List UInt8) (k1 k2 : IntKind) (a b : Nat) (h1 : OfNat.ofNat a ≤ b) (h2 : b ≤ l.length) : cutST (some (.sc (str l))) (some (some (.sc (.int k1 (no_index (OfNat.ofNat a : Int)))))) (some (some (.sc (.int k2 b)))) = some (.sc (str (sub l (OfNat.ofNat a) b))) := cut_sub l k1 k2 a b h1 h2
theorem str_eqd (a b : List UInt8) : binT .eql (.sc (str a)) (.sc (str b)) = some (.sc (.bool (decide (a = b)))) := by
 rw [str_eq]; by_cases h : a = b <;> simp [h]
theorem str_ned (a b : List UInt8) : binT .neq (.sc (str a)) (.sc (str b)) = some (.sc (.bool (!decide (a = b)))) := by
 have := str_eq a b
 by_cases h : a = b
 ·subst h; simp [str, binT, binS]
 ·have h2 : (a == b) = false := by simpa using h
  rw [h2] at this
  simp [str, binT, binS, ByteArray.toList_eq] at this ⊢
  simp [h]
def B (s : List UInt8) (i : Nat) : Nat := (s.getD i 0).toNat
theorem B_lt (s : List UInt8) (i : Nat) : B s i < 256 := UInt8.toNat_lt _
theorem idx_B (s : List UInt8) (k : IntKind) (i : Nat) (h : i < s.length) : idxST (.sc (str s)) (.sc (.int k i)) = some (.sc (.int .u8 (B s i))) := idxST_str s k i h
end
theorem swC_R {E : Env} {L n : Nat} {ks : List Kt} {a b : Nat} {x : List UInt8} (hab : a ≠ b) : ∀ (ws : List (Nat × Array UInt8)) {s : Slots} {S : Store}, ws ≠ [] → (∀ p ∈ ws, p.1 ≠ a) → get s a = .sc (str x) →
  ∃ X, R E L n (swC a b ws) ks ⟨s, S⟩ = RX E L n ks .nrm ⟨X, S⟩ ∧ get X b = .sc (.bool (ws.any fun p => x == p.2.toList)) ∧ ∀ k, k ≠ b → (∀ p ∈ ws, p.1 ≠ k) → get X k = get s k
 | [], s, S, h, _, _ => absurd rfl h
 | [(d, w)], s, S, _, hd, hx => by
  refine ⟨(b, .sc (.bool (x == w.toList))) :: (d, .sc (.bool (x == w.toList))) :: s, ?_, ?_, fun k hk hp => ?_⟩
  ·simp only [swC, R_ops, RO_o, rX_bin, rX_mv, ev_t, ev_cs, two_some, hx, cs_str, str_eq, lift_some, RK_some, put_some, get_cons, if_true, RO_nil]
  ·simp [get_cons]
  ·have := hp (d, w) (by simp)
   simp only [get_cons]
   rw [if_neg hk, if_neg (Ne.symm this)]
 | (d, w) :: p :: r, s, S, _, hd, hx => by
  have hda : d ≠ a := hd (d, w) (by simp)
  have step : R E L n (swC a b ((d, w) :: p :: r)) ks ⟨s, S⟩ = if (x == w.toList) = true then RX E L n ks .nrm ⟨(b, .sc (.bool (x == w.toList))) :: (d, .sc (.bool (x == w.toList))) :: s, S⟩
    else R E L n (swC a b (p :: r)) ks ⟨(b, .sc (.bool (x == w.toList))) :: (d, .sc (.bool (x == w.toList))) :: s, S⟩ := by
   simp only [swC, R_seq, R_ops, RO_o, rX_bin, rX_mv, ev_t, ev_cs, two_some, hx, cs_str, str_eq, lift_some, RK_some, put_some, get_cons, if_true, RO_nil, RX_sq, R_cond, R_skip, RC_b]
  rw [step]
  cases hq : x == w.toList with
  | true =>
   refine ⟨_, by rw [if_pos rfl], ?_, fun k hk hp => ?_⟩
   ·simp [get_cons, hq]
   ·have := hp (d, w) (by simp)
    simp only [get_cons]
    rw [if_neg hk, if_neg (Ne.symm this)]
  | false =>
   rw [if_neg (by simp)]
   obtain ⟨X, h1, h2, h3⟩ := swC_R (E := E) (L := L) (n := n) (ks := ks) hab (p :: r) (s := (b, .sc (.bool false)) :: (d, .sc (.bool false)) :: s) (S := S) (by simp) (fun q hq => hd q (List.mem_cons_of_mem _ hq)) (by
    simp only [get_cons]
    rw [if_neg hab, if_neg (Ne.symm hda)]; exact hx)
   refine ⟨X, h1, ?_, fun k hk hp => ?_⟩
   ·rw [h2]; simp [hq]
   ·rw [h3 k hk (fun q hq => hp q (List.mem_cons_of_mem _ hq))]
    have := hp (d, w) (by simp)
    simp only [get_cons]
    rw [if_neg hk, if_neg (Ne.symm this)]
theorem swC_all (E : Env) (L n : Nat) {a b : Nat} {x : List UInt8} (ws : List (Nat × Array UInt8)) (s : Slots) (S : Store) (hab : a ≠ b) (hw : ws ≠ []) (hd : ∀ p ∈ ws, p.1 ≠ a) (hx : get s a = .sc (str x)) :
  ∃ X, (∀ ks, R E L n (swC a b ws) ks ⟨s, S⟩ = RX E L n ks .nrm ⟨X, S⟩) ∧ get X b = .sc (.bool (ws.any fun p => x == p.2.toList)) ∧ ∀ k, k ≠ b → (∀ p ∈ ws, p.1 ≠ k) → get X k = get s k := by
 obtain ⟨X, h1, h2, h3⟩ := swC_R (E := E) (L := L) (n := n) (ks := []) hab ws (s := s) (S := S) hw hd hx
 refine ⟨X, fun ks => ?_, h2, h3⟩
 simp only [R, RM_nil] at h1
 simp only [R, h1]
 rfl
attribute [congr] RQ_congr RQK_congr vG_congr R_congr RX_congr RM_congr RO_congr RK_congr RC_congr RG_congr Lp_congr
attribute [simp] local_eq updO_ap upd_updO trunc_updO updO_some over_nil over_cons over_low lowO_ap lowO_lowO lowO_upd setRo_lowO valX_n valX_g vG_tt vG_ff vG_tf vG_ft vG_t R_drq RQ_nil RQ_cons RQK_some R_skip R_seq R_block R_ret R_exit R_ops R_cond R_loop RX_nil RX_sq RX_sqe RX_bln RX_ble RX_lpn RX_lpe RX_ret RM_some RM_nil RO_nil RO_o RO_g RK_some RC_n RG_n RC_tt RC_ff RG_tt RG_ff RG_tf RG_ft RG_t
 leave_s leave_h keep_nil keep_cons maskL_nil maskL_cons evF_R fin_r fin_n resK_some hand_f q_hand_t handK_some snapR_tup snU_some snapR_sc snapR_agg snapR_own snapR_lst snapR_ptr snapR_clo resR_nil resR_t resR_c rc1_some rc2_some one_1 one_2 one_0 pack_eq packX_nil packX_cons
 takeX_nil call_f call_c goS_some goE_some goU_some goL_some goV_none shut1_nil shut1_cons plainC_0 plainC_nil plainC_cons lowC_nil lowC_cons blt_0s lay_emp lay_low lay_up lay_same headB_eq boxAll_nil boxAll_cons boxOne_lo boxOne_hi bxO_box bxP_some keepS_nil snA_nil snA_cons sn2_some sn1_f sn1_t snap_sc snap_lst snap_ptr snap_clo snap_agg snG_some snapL_nil snapL_cons q_snap_own snO_arr
 closed_sc closed_lst closed_agg closed_ptr closed_clo closed_own closedL_nil closedL_cons isSc_int isSc_bool isSc_str isSc_nil isSc_fn
 locs_sc locs_lst locs_lptr locs_undef locs_own locs_ptr locs_clo lv_clo locs_agg locs_tup locsL_nil locsL_cons dedup_nil dedup_cons lv_tup lv_lst lv_own lv_ptr lv_undef
 ren_sc ren_lst ren_lptr ren_undef ren_agg ren_tup ren_clo renL_nil renL_cons ren_ptr ren_own renP_some renO_t renO_f maskF_ap
 rX_mv rX_pick rX_bin b_lss b_leq b_gtr b_geq b_eql b_neq b_add b_sub b_mul p_true p_false lift_some two_some three_some ev_t ev_ci ev_cb ev_cs ev_func ev_nil put_some put_none get_cons get_nil
 opt1_some lenST_str rX_lenS rX_idxS rX_call evL_nil evL_cons rX_cutS bnd_none bnd_some cs_str str_eqd str_ned trunc_emp
 emp_ap upd_ap upd_upd rX_alloc rX_box newBoxR_d rX_store storeR_ptr stP_box rX_load loadR_ptr ldP_box rX_faddr faddrR_ptr rX_bld fill_nil fill_cons fillK_some rX_ext rX_not rX_mm cells_sc cells_agg one_sc lv_sc lv_agg lvL_nil lvL_cons
 stoX aggX extT notT mm_min mm_min_l mm_min_r mm_max mm_max_l mm_max_r head_s head_sn snapAll_nil snapAll_cons snD_some headOf_eq snap_undef snap_tup snap_lptr snap_aptr setRo_em setRo_box setRo_upd_arr setRo_n maskT_emp maskT_upd maskT_low maskT_trunc ren_box ren_arr trunc_low trunc_keep trunc_trunc updI_eq upd_sort upd_sort2 splice readAt rX_cv cvT_int rX_s2b rX_len lenT_lst lenT_own lenT_nil rX_iaddr
 wr_nat wr_add wr_add1 wr_addn wr_sub wr_sub1 wr_subn idx_B cut_ln_l cut_nl_l cut_sub_l cut_sub cut_nl cut_ln argS_nil argS_cons
attribute [simp high] n_lss n_lss_l n_lss_r n_leq n_leq_l n_leq_r n_gtr n_gtr_l n_gtr_r n_geq n_geq_l n_geq_r n_eql n_eql_l n_eql_r n_neq n_neq_l n_neq_r
attribute [simp] List.getElem?_cons_zero List.getElem?_cons_succ List.getElem?_nil
attribute [simp low] wr_in
end Go.TM
namespace Go.TM
open Go
section
variable {E : Env} {L : Nat} {s : Slots} {S : Store} {dd : Option Nat} {call : CallF} {om : FuncId → List Nat}
def mkX (L : Nat) (d : Option Nat) (S : Store) (sz : Nat) (e : TypeId) (z : T) : Option T → Option T → Option (T × Store)
 | some x, some y => mkR L d S sz e z x y
 | _, _ => none
theorem rX_mk {sz : Nat} {e : TypeId} {z : T} {l c : Operand} : evX call om L dd s S (.mk sz e z l c) = mkX L dd S sz e z (ev s l) (ev s c) := by
 simp only [evX, mkX]
 cases ev s l <;> cases ev s c <;> rfl
theorem mkX_n {sz : Nat} {e : TypeId} {z : T} {k k' : IntKind} {n m : Nat} {d : Option Nat} (h1 : n ≤ m) (h2 : m ≤ 1000000000) : mkX L d S sz e z (some (.sc (.int k (n : Int)))) (some (.sc (.int k' (m : Int)))) = newArrR L d sz e (List.replicate n z) S := by
 simp only [mkX, mkR, Int.toNat_natCast]
 rw [if_pos ⟨by omega, by omega, by unfold maxRow; omega⟩]
theorem mkX_l {sz : Nat} {e : TypeId} {z : T} {k k' : IntKind} {n m : Nat} {d : Option Nat} (h1 : OfNat.ofNat n ≤ (OfNat.ofNat m : Nat)) (h2 : OfNat.ofNat m ≤ (1000000000 : Nat)) : mkX L d S sz e z (some (.sc (.int k (no_index (OfNat.ofNat n : Int))))) (some (.sc (.int k' (no_index (OfNat.ofNat m : Int))))) = newArrR L d sz e (List.replicate (OfNat.ofNat n) z) S := mkX_n h1 h2
theorem newArr_d {d sz : Nat} {e : TypeId} {xs : List T} : newArrR L (some d) sz e xs S = if (S (L, d)).isNone = true then some (.own (L, d) 0 0 xs.length, upd S (L, d) (.arr false 0 sz e xs)) else none := rfl
def frK (S : Store) : Option (T × List Loc) → Option (T × Store)
 | some (u, ls) => if closed u = true then some (u, setRo S ls) else none
 | none => none
theorem freeze_eq (x : T) : freeze S x = frK S (snap S x) := by
 simp only [freeze, frK]; cases snap S x <;> rfl
theorem frK_some (u : T) (ls : List Loc) : frK S (some (u, ls)) = if closed u = true then some (u, setRo S ls) else none := rfl
def q_frL (xs : List T) : Option (T × Store) → Option (List T × Store)
 | some (y, S1) => match freezeL S1 xs with
  | some (ys, S2) => some (y :: ys, S2)
  | none => none
 | none => none
def frC (y : T) : Option (List T × Store) → Option (List T × Store)
 | some (ys, S2) => some (y :: ys, S2)
 | none => none
theorem freezeL_nil : freezeL S [] = some ([], S) := rfl
theorem freezeL_cons (x : T) (xs : List T) : freezeL S (x :: xs) = q_frL xs (freeze S x) := by
 simp only [freezeL, q_frL]; cases freeze S x <;> rfl
theorem frL_some (xs : List T) (y : T) (S1 : Store) : q_frL xs (some (y, S1)) = frC y (freezeL S1 xs) := by
 rfl
theorem frC_some (y : T) (ys : List T) (S2 : Store) : frC y (some (ys, S2)) = some (y :: ys, S2) := rfl
def bslX (om : FuncId → List Nat) (L : Nat) (d : Option Nat) (S : Store) (e : TypeId) (sz : Nat) : Option (List T) → Option (T × Store)
 | some ts => bslR om L d S e sz ts
 | none => none
def bslK (l : List Nat) (L : Nat) (d : Option Nat) (e : TypeId) (sz : Nat) : Option (List T × Store) → Option (T × Store)
 | some (us, S1) => if (us.all fun u => decide (u.cells.length = sz)) = true then bornR (l.contains (e + 1000000 * L)) L d sz e us S1 else none
 | none => none
theorem rX_bsl {e : TypeId} {sz : Nat} {ps : List Operand} : evX call om L dd s S (.bsl e sz ps) = bslX om L dd S e sz (evL s ps) := by
 simp only [evX, bslX]; cases evL s ps <;> rfl
theorem bslX_some {e : TypeId} {sz : Nat} {d : Option Nat} {ts : List T} : bslX om L d S e sz (some ts) = bslK (om 1000000002) L d e sz (freezeL S ts) := by
 simp only [bslX, bslR, bslK]; cases freezeL S ts <;> rfl
theorem bslK_some {l : List Nat} {e : TypeId} {sz : Nat} {d : Option Nat} {us : List T} {S1 : Store} : bslK l L d e sz (some (us, S1)) = if (us.all fun u => decide (u.cells.length = sz)) = true then bornR (l.contains (e + 1000000 * L)) L d sz e us S1 else none := rfl
theorem born_false {e : TypeId} {sz : Nat} {d : Option Nat} {us : List T} {S1 : Store} : bornR false L d sz e us S1 = newArrR L d sz e us S1 := rfl
theorem born_nil {e : TypeId} {sz : Nat} {d : Option Nat} {us : List T} {S1 : Store} : bornR (([] : List Nat).contains (e + 1000000 * L)) L d sz e us S1 = newArrR L d sz e us S1 := rfl
def elO (g off len : Nat) : Option Obj → Option (Option Nat × List T)
 | some (.arr _ g' sz _ xs) => if g = g' ∧ off + len ≤ xs.length then some (some sz, (xs.drop off).take len) else none
 | _ => none
def el (S : Store) : T → Option (Option Nat × List T)
 | .lst sz xs => some (some sz, xs)
 | .own l g off len => elO g off len (S l)
 | .sc (.slice none _ _) => some (none, [])
 | _ => none
theorem elemsOf_el (y : T) : (elemsOf S y).map (fun p => (p.1, p.2.1)) = el S y := by
 cases y with
 | own l g off len =>
  simp only [elemsOf, el, elO]
  cases S l with
  | none => rfl
  | some ob => cases ob with
   | arr ro g' sz e xs => simp only []; by_cases h : g = g' ∧ off + len ≤ xs.length <;> simp [h]
   | _ => rfl
 | sc v => cases v with
  | slice a n c => cases a <;> rfl
  | _ => rfl
 | _ => rfl
theorem el_lst (sz : Nat) (xs : List T) : el S (.lst sz xs) = some (some sz, xs) := rfl
theorem el_own (l : Loc) (g off len : Nat) : el S (.own l g off len) = elO g off len (S l) := rfl
theorem el_nil : el S (.sc (.slice none 0 0)) = some (none, []) := rfl
theorem elO_arr (g off len : Nat) (ro : Bool) (g' sz : Nat) (e : TypeId) (xs : List T) : elO g off len (some (.arr ro g' sz e xs)) = if g = g' ∧ off + len ≤ xs.length then some (some sz, (xs.drop off).take len) else none := rfl
def apK (lp : Nat × Option Nat) (S : Store) (e : TypeId) (sz : Nat) (x : Option T) : Option (Option Nat × List T) → Option (T × Store)
 | some (sy, ys) =>
  if sy = none ∨ sy = some sz then
   match x with
   | some (.sc (.slice none a b)) => if ys.isEmpty = true then some (.sc (.slice none a b), S) else if ys.length ≤ maxRow then newArrR lp.1 lp.2 sz e ys S else none
   | some (.own l g off len) => match S l with
    | some (.arr ro g' sz' e' xs) => if g = g' ∧ len ≤ xs.length then
      (if ys.isEmpty = true then some (.own l g off len, S)
       else if ro = false ∧ off = 0 ∧ sz' = sz ∧ e' = e ∧ len + ys.length ≤ maxRow then
       some (.own l (g + 1) 0 (len + ys.length), upd S l (.arr false (g + 1) sz e (xs.take len ++ ys)))
       else none) else none
    | _ => none
   | _ => none
  else none
 | none => none
def apX (lp : Nat × Option Nat) (S : Store) (e : TypeId) (sz : Nat) (x : Option T) : Option T → Option (T × Store)
 | some y => apK lp S e sz x (el S y)
 | none => none
theorem rX_app {e : TypeId} {sz : Nat} {x y : Operand} : evX call om L dd s S (.app e sz x y) = apX (lowP om L dd e) S e sz (ev s x) (ev s y) := by
 simp only [evX, apX]
 cases ev s x with
 | none =>
  cases ev s y with
  | none => rfl
  | some u => simp only [apK]; cases el S u with
   | none => rfl
   | some p => simp
 | some v =>
  cases ev s y with
  | none => rfl
  | some u =>
   simp only [appR]
   have := elemsOf_el (S := S) u
   cases hq : elemsOf S u with
   | none => rw [hq] at this; simp at this; rw [← this]; rfl
   | some p =>
    obtain ⟨sy, ys, f⟩ := p
    rw [hq] at this
    simp only [Option.map_some] at this
    rw [← this]
    simp only [apK]
    by_cases h : sy = none ∨ sy = some sz
    ·simp only [h, if_true]
     cases v with
     | sc v => cases v with
      | slice a n c => cases a <;> rfl
      | _ => rfl
     | own l g off len => cases S l with
      | none => rfl
      | some ob => cases ob <;> rfl
     | _ => rfl
    ·simp only [h, if_false]
theorem apX_some {lp : Nat × Option Nat} {e : TypeId} {sz : Nat} {x : Option T} {y : T} : apX lp S e sz x (some y) = apK lp S e sz x (el S y) := rfl
theorem apK_nil {k : Nat} {d : Option Nat} {e : TypeId} {sz : Nat} {sy : Option Nat} {ys : List T} : apK (k, d) S e sz (some (.sc (.slice none 0 0))) (some (sy, ys)) = if sy = none ∨ sy = some sz then (if ys.isEmpty = true then some (.sc (.slice none 0 0), S) else if ys.length ≤ maxRow then newArrR k d sz e ys S else none) else none := rfl
def apO (S : Store) (e : TypeId) (sz : Nat) (l : Loc) (g off len : Nat) (ys : List T) : Option Obj → Option (T × Store)
 | some (.arr ro g' sz' e' xs) => if g = g' ∧ len ≤ xs.length then
      (if ys.isEmpty = true then some (.own l g off len, S)
       else if ro = false ∧ off = 0 ∧ sz' = sz ∧ e' = e ∧ len + ys.length ≤ maxRow then
       some (.own l (g + 1) 0 (len + ys.length), upd S l (.arr false (g + 1) sz e (xs.take len ++ ys)))
       else none) else none
 | _ => none
theorem apK_own {lp : Nat × Option Nat} {e : TypeId} {sz : Nat} {l : Loc} {g off len : Nat} {sy : Option Nat} {ys : List T} : apK lp S e sz (some (.own l g off len)) (some (sy, ys)) = if sy = none ∨ sy = some sz then apO S e sz l g off len ys (S l) else none := by
 rfl
theorem apO_arr {e : TypeId} {sz : Nat} {l : Loc} {g off len : Nat} {ys : List T} {ro : Bool} {g' sz' : Nat} {e' : TypeId} {xs : List T} : apO S e sz l g off len ys (some (.arr ro g' sz' e' xs)) = if g = g' ∧ len ≤ xs.length then
      (if ys.isEmpty = true then some (.own l g off len, S)
       else if ro = false ∧ off = 0 ∧ sz' = sz ∧ e' = e ∧ len + ys.length ≤ maxRow then
       some (.own l (g + 1) 0 (len + ys.length), upd S l (.arr false (g + 1) sz e (xs.take len ++ ys)))
       else none) else none := rfl
def iaO (sz : Nat) (l : Loc) (g off len i : Nat) : Option Obj → Option T
 | some (.arr _ g' sz' _ xs) => if g = g' ∧ sz = sz' ∧ off + len ≤ xs.length ∧ i < len then some (.aptr l g (off + i) 0) else none
 | _ => none
theorem idxOk_n (i n : Nat) : idxOk (i : Int) n = decide (i < n) := by
 unfold idxOk
 by_cases h : i < n
 ·have : (i : Int) < n := by omega
  simp [h]
 ·have : ¬ (i : Int) < n := by omega
  simp [h]
theorem ia_own (sz : Nat) (l : Loc) (g off len : Nat) (k : IntKind) (i : Nat) : iaddrR sz S (.own l g off len) (.sc (.int k (i : Int))) = iaO sz l g off len i (S l) := by
 simp only [iaddrR, iaO]
 cases S l with
 | none => rfl
 | some ob => cases ob with
  | arr ro g' sz' e xs =>
   simp only [idxOk_n, Int.toNat_natCast]
   by_cases h : g = g' ∧ sz = sz' ∧ off + len ≤ xs.length
   ·by_cases h2 : i < len <;> simp [h, h2]
   ·rw [if_neg h, if_neg (by intro hh; exact h ⟨hh.1, hh.2.1, hh.2.2.1⟩)]
  | _ => rfl
theorem ia_own_l (sz : Nat) (l : Loc) (g off len : Nat) (k : IntKind) (i : Nat) : iaddrR sz S (.own l g off len) (.sc (.int k (no_index (OfNat.ofNat i : Int)))) = iaO sz l g off len (OfNat.ofNat i) (S l) := ia_own sz l g off len k i
theorem iaO_arr (sz : Nat) (l : Loc) (g off len i : Nat) (ro : Bool) (g' sz' : Nat) (e : TypeId) (xs : List T) : iaO sz l g off len i (some (.arr ro g' sz' e xs)) = if g = g' ∧ sz = sz' ∧ off + len ≤ xs.length ∧ i < len then some (.aptr l g (off + i) 0) else none := rfl
theorem ia_lst (sz sz' : Nat) (xs : List T) (k : IntKind) (i : Nat) : iaddrR sz S (.lst sz' xs) (.sc (.int k (i : Int))) = if sz = sz' ∧ i < xs.length then some (.lptr sz xs i 0) else none := by
 simp only [iaddrR, idxOk_n, Int.toNat_natCast]
 by_cases h : sz = sz'
 ·by_cases h2 : i < xs.length <;> simp [h, h2]
 ·simp [h]
theorem ia_lst_l (sz sz' : Nat) (xs : List T) (k : IntKind) (i : Nat) : iaddrR sz S (.lst sz' xs) (.sc (.int k (no_index (OfNat.ofNat i : Int)))) = if sz = sz' ∧ OfNat.ofNat i < xs.length then some (.lptr sz xs (OfNat.ofNat i) 0) else none := ia_lst sz sz' xs k i
def ldQ (ag : Bool) (n off : Nat) : Option T → Option T
 | some x => readAt ag n x.cells off
 | none => none
theorem ldQ_some (ag : Bool) (n off : Nat) (x : T) : ldQ ag n off (some x) = readAt ag n x.cells off := rfl
theorem ld_lptr (ag : Bool) (n sz : Nat) (xs : List T) (i off : Nat) : loadR ag n S (.lptr sz xs i off) = ldQ ag n off xs[i]? := by
 simp only [loadR, ldQ]; cases xs[i]? <;> rfl
def ldA (ag : Bool) (n g i off : Nat) : Option Obj → Option T
 | some (.arr _ g' _ _ xs) => if g = g' then ldQ ag n off xs[i]? else none
 | _ => none
theorem ld_aptr (ag : Bool) (n : Nat) (l : Loc) (g i off : Nat) : loadR ag n S (.aptr l g i off) = ldA ag n g i off (S l) := by
 simp only [loadR, ldA]
 cases S l with
 | none => rfl
 | some ob => cases ob with
  | arr ro g' sz' e xs => simp only [ldQ]; by_cases h : g = g' <;> simp only [h, if_true, if_false]; cases xs[i]? <;> rfl
  | _ => rfl
theorem ldA_arr (ag : Bool) (n g i off : Nat) (ro : Bool) (g' sz : Nat) (e : TypeId) (xs : List T) : ldA ag n g i off (some (.arr ro g' sz e xs)) = if g = g' then ldQ ag n off xs[i]? else none := rfl
def stA (n : Nat) (l : Loc) (g i off : Nat) : Option (T × Store) → Option Store
 | some (u, S1) => match S1 l with
  | some (.arr ro g' sz e xs) => if g = g' ∧ ro = false ∧ i < xs.length ∧ off = 0 ∧ n = sz ∧ u.cells.length = sz then some (upd S1 l (.arr false g' sz e (xs.set i u))) else none
  | _ => none
 | none => none
theorem st_aptr (n : Nat) (l : Loc) (g i off : Nat) (v : T) : storeR n S (.aptr l g i off) v = if v.cells.length = n then stA n l g i off (freeze S v) else none := by
 simp only [storeR, stA]
 by_cases h : v.cells.length = n
 ·simp only [h, if_true]
  cases freeze S v with
  | none => rfl
  | some p =>
   obtain ⟨u, S1⟩ := p
   simp only []
   cases S1 l with
   | none => rfl
   | some ob => cases ob <;> rfl
 ·simp only [h, if_false]
def stB (n : Nat) (l : Loc) (g i off : Nat) (u : T) (S1 : Store) : Option Obj → Option Store
 | some (.arr ro g' sz e xs) => if g = g' ∧ ro = false ∧ i < xs.length ∧ off = 0 ∧ n = sz ∧ u.cells.length = sz then some (upd S1 l (.arr false g' sz e (xs.set i u))) else none
 | _ => none
theorem stA_some (n : Nat) (l : Loc) (g i off : Nat) (u : T) (S1 : Store) : stA n l g i off (some (u, S1)) = stB n l g i off u S1 (S1 l) := by
 rfl
theorem stB_arr (n : Nat) (l : Loc) (g i off : Nat) (u : T) (S1 : Store) (ro : Bool) (g' sz : Nat) (e : TypeId) (xs : List T) : stB n l g i off u S1 (some (.arr ro g' sz e xs)) = if g = g' ∧ ro = false ∧ i < xs.length ∧ off = 0 ∧ n = sz ∧ u.cells.length = sz then some (upd S1 l (.arr false g' sz e (xs.set i u))) else none := rfl
def sbn (n : Nat) : Option (Option T) → Option Int
 | some none => some n
 | some (some (.sc (.int _ i))) => some i
 | _ => none
def slK (n : Nat) (mk : Nat → Nat → T) (mxb : Bool) : Option Int → Option Int → Option Int → Option T
 | some l, some h, some m => if 0 ≤ l ∧ l ≤ h ∧ h ≤ m ∧ m ≤ n ∧ mxb = true then some (mk l.toNat h.toNat) else none
 | _, _, _ => none
def slX (sz : Nat) (S : Store) (x : Option T) (lo hi mx : Option (Option T)) (mxb nb : Bool) : Option T :=
 match x with
 | some (.lst sz' xs) => if sz = sz' then slK xs.length (fun l h => .lst sz ((xs.take h).drop l)) mxb (sbn 0 lo) (sbn xs.length hi) (sbn xs.length mx) else none
 | some (.own lc g off len) => match S lc with
  | some (.arr _ g' sz' _ _) => if g = g' ∧ sz = sz' then slK len (fun l h => .own lc g (off + l) (h - l)) mxb (sbn 0 lo) (sbn len hi) (sbn len mx) else none
  | _ => none
 | some (.sc (.slice none n c)) => if (n = 0 ∧ c = 0) ∧ nb = true then slK 0 (fun _ _ => .sc (.slice none 0 0)) mxb (sbn 0 lo) (sbn 0 hi) (sbn 0 mx) else none
 | _ => none
theorem rX_slc {sz : Nat} {x : Operand} {lo hi mx : Option Operand} : evX call om L dd s S (.slc sz x lo hi mx) = liftX S (slX sz S (ev s x) (q_bnd s lo) (q_bnd s hi) (q_bnd s mx) (!mx.isSome || hi.isSome) (lo.isNone && hi.isSome && mx.isNone)) := by
 have e1 : ∀ (y : Option Operand) (n : Nat), bndO s n y = sbn n (q_bnd s y) := by
  intro y n
  cases y with
  | none => rfl
  | some y =>
   simp only [bndO, q_bnd]
   cases ev s y with
   | none => rfl
   | some u => cases u with
    | sc v => cases v <;> rfl
    | _ => rfl
 have e2 : ∀ n mk, cutT s lo hi mx n mk = slK n mk (!mx.isSome || hi.isSome) (sbn 0 (q_bnd s lo)) (sbn n (q_bnd s hi)) (sbn n (q_bnd s mx)) := by
  intro n mk
  simp only [cutT, e1, slK]
  rcases sbn 0 (q_bnd s lo) with _ | l
  ·rfl
  ·rcases sbn n (q_bnd s hi) with _ | h
   ·rfl
   ·rcases sbn n (q_bnd s mx) with _ | m
    ·rfl
    ·simp only []
     cases hm : mx.isSome <;> cases hh : hi.isSome <;> simp
 simp only [evX]
 cases ev s x with
 | none => rfl
 | some u =>
  rw [← mapLift]
  congr 1
  cases u with
  | lst sz' xs => simp only [slcR, slX, e2]
  | own lc g off len =>
   simp only [slcR, slX, e2]
   cases S lc with
   | none => rfl
   | some ob => cases ob <;> rfl
  | sc v => cases v with
   | slice a n c => cases a <;> simp only [slcR, slX, e2]
   | _ => rfl
  | _ => rfl
theorem sbn_n (n : Nat) : sbn n (some none) = some (n : Int) := rfl
theorem sbn_s (n : Nat) (k : IntKind) (i : Int) : sbn n (some (some (.sc (.int k i)))) = some i := rfl
theorem slX_lst (sz sz' : Nat) (xs : List T) (lo hi mx : Option (Option T)) (b nb : Bool) : slX sz S (some (.lst sz' xs)) lo hi mx b nb = if sz = sz' then slK xs.length (fun l h => .lst sz ((xs.take h).drop l)) b (sbn 0 lo) (sbn xs.length hi) (sbn xs.length mx) else none := rfl
def slO (sz : Nat) (lc : Loc) (g off len : Nat) (lo hi mx : Option (Option T)) (b : Bool) : Option Obj → Option T
 | some (.arr _ g' sz' _ _) => if g = g' ∧ sz = sz' then slK len (fun l h => .own lc g (off + l) (h - l)) b (sbn 0 lo) (sbn len hi) (sbn len mx) else none
 | _ => none
theorem slX_own (sz : Nat) (lc : Loc) (g off len : Nat) (lo hi mx : Option (Option T)) (b nb : Bool) : slX sz S (some (.own lc g off len)) lo hi mx b nb = slO sz lc g off len lo hi mx b (S lc) := by
 rfl
theorem slO_arr (sz : Nat) (lc : Loc) (g off len : Nat) (lo hi mx : Option (Option T)) (b : Bool) (ro : Bool) (g' sz' : Nat) (e : TypeId) (xs : List T) : slO sz lc g off len lo hi mx b (some (.arr ro g' sz' e xs)) = if g = g' ∧ sz = sz' then slK len (fun l h => .own lc g (off + l) (h - l)) b (sbn 0 lo) (sbn len hi) (sbn len mx) else none := rfl
theorem slK_n (n : Nat) (mk : Nat → Nat → T) (b : Bool) (l h m : Nat) : slK n mk b (some (l : Int)) (some (h : Int)) (some (m : Int)) = if l ≤ h ∧ h ≤ m ∧ m ≤ n ∧ b = true then some (mk l h) else none := by
 simp only [slK, Int.toNat_natCast]
 by_cases hh : l ≤ h ∧ h ≤ m ∧ m ≤ n ∧ b = true
 ·rw [if_pos hh, if_pos ⟨by omega, by omega, by omega, by omega, hh.2.2.2⟩]
 ·rw [if_neg hh, if_neg (by intro ⟨_, h2, h3, h4, h5⟩; exact hh ⟨by omega, by omega, by omega, h5⟩)]
theorem slK_a (n : Nat) (mk : Nat → Nat → T) (b : Bool) (l h m : Nat) : slK n mk b (some (no_index (OfNat.ofNat l : Int))) (some (h : Int)) (some (m : Int)) = if OfNat.ofNat l ≤ h ∧ h ≤ m ∧ m ≤ n ∧ b = true then some (mk (OfNat.ofNat l) h) else none := slK_n n mk b l h m
theorem slK_b (n : Nat) (mk : Nat → Nat → T) (b : Bool) (l h m : Nat) : slK n mk b (some (l : Int)) (some (no_index (OfNat.ofNat h : Int))) (some (m : Int)) = if l ≤ OfNat.ofNat h ∧ OfNat.ofNat h ≤ m ∧ m ≤ n ∧ b = true then some (mk l (OfNat.ofNat h)) else none := slK_n n mk b l h m
def b2sX (S : Store) : Option (Option Nat × List T) → Option T
 | some (some 1, xs) => (bytesV xs).map fun bs => .sc (.string ⟨bs.toArray⟩)
 | some (none, _) => some (.sc (str []))
 | _ => none
def b2sY (S : Store) : Option T → Option T
 | some y => b2sX S (el S y)
 | none => none
theorem rX_b2s {x : Operand} : evX call om L dd s S (.b2s x) = liftX S (b2sY S (ev s x)) := by
 simp only [evX]
 cases ev s x with
 | none => rfl
 | some u =>
  rw [← mapLift]
  congr 1
  simp only [b2sR, b2sY]
  have := elemsOf_el (S := S) u
  cases hq : elemsOf S u with
  | none => rw [hq] at this; simp at this; rw [← this]; rfl
  | some p =>
   obtain ⟨sy, ys, f⟩ := p
   rw [hq] at this
   simp only [Option.map_some] at this
   rw [← this]
   cases sy with
   | none => rfl
   | some k => match k with
    | 0 => rfl
    | 1 => rfl
    | k + 2 => rfl
theorem b2sY_some (y : T) : b2sY S (some y) = b2sX S (el S y) := rfl
theorem bytesV_map : ∀ l : List UInt8, bytesV (l.map bT) = some l
 | [] => rfl
 | b :: l => by
  have := bytesV_map l
  show (bytesV (l.map bT)).map (UInt8.ofNat ((b.toNat : Int)).toNat :: ·) = _
  rw [this]; simp
theorem b2sX_nil (l : List T) : b2sX S (some (none, l)) = some (.sc (str [])) := rfl
theorem b2sX_map (l : List UInt8) : b2sX S (some (some 1, l.map bT)) = some (.sc (str l)) := by
 show (bytesV (l.map bT)).map (fun bs => T.sc (.string ⟨bs.toArray⟩)) = _
 rw [bytesV_map]; rfl
theorem posOf_nil (l : Loc) : posOf [] l = none := rfl
theorem posOf_same (l : Loc) (r : List Loc) : posOf (l :: r) l = some 0 := by simp [posOf, List.findIdx?_cons]
theorem posOf_ne (l m : Loc) (r : List Loc) (h : ¬ m = l) : posOf (l :: r) m = (posOf r m).map (· + 1) := by
 have : (l == m) = false := by simpa using Ne.symm h
 simp [posOf, List.findIdx?_cons, this]
theorem packF_ap (n : Nat) (ls : List Loc) (m k : Nat) (l : Loc) : packF n ls m k l = if l.1 = n then (posOf ls l).map (fun j => (m, k + j)) else some l := rfl
theorem packOk_nil (n : Nat) : packOk n [] S = true := rfl
def pkO (n : Nat) : Option Obj → Bool
 | some (.box _ cs) => lvleL (n - 1) cs
 | some (.arr ..) => true
 | _ => false
theorem packOk_cons (n : Nat) (l : Loc) (r : List Loc) : packOk n (l :: r) S = (pkO n (S l) && packOk n r S) := by
 simp only [packOk, List.all_cons, pkO]
 cases S l with
 | none => rfl
 | some ob => cases ob <;> rfl
theorem pkO_arr (n : Nat) (ro : Bool) (g sz : Nat) (e : TypeId) (xs : List T) : pkO n (some (.arr ro g sz e xs)) = true := rfl
theorem pkO_box (n : Nat) (bt : TypeId) (cs : List T) : pkO n (some (.box bt cs)) = lvleL (n - 1) cs := rfl
def putS (f : Loc → Option Loc) (z : Loc → Bool) (S1 : Store) (m : Nat) : Nat → List Loc → Store → Store
 | _, [], S => S
 | k, q :: r, S => updO (putS f z S1 m (k + 1) r S) (m, k) ((S1 q).map (renObj S1 f z))
theorem putS_at (f : Loc → Option Loc) (z : Loc → Bool) (S1 : Store) (m : Nat) : ∀ (ls : List Loc) (k : Nat) (l : Loc), putS f z S1 m k ls S l = match srcOf ls m k l with
  | some q => (S1 q).map (renObj S1 f z)
  | none => S l
 | [], k, l => by simp [putS, srcOf_nil]
 | q :: r, k, l => by
  have ih := putS_at f z S1 m r (k + 1) l
  have hu : ∀ o, updO (putS f z S1 m (k + 1) r S) (m, k) o l = if l = (m, k) then o else putS f z S1 m (k + 1) r S l := by
   intro o
   cases o with
   | none => rfl
   | some o => rfl
  simp only [putS]
  rw [hu]
  unfold srcOf at ih ⊢
  by_cases h1 : l.1 = m ∧ k ≤ l.2
  ·rw [if_pos h1]
   by_cases h2 : l = (m, k)
   ·subst h2; simp
   ·rw [if_neg h2]
    have h3 : k + 1 ≤ l.2 := by
     rcases Nat.lt_or_ge k l.2 with h | h
     ·exact h
     ·exact absurd (by ext; exact h1.1; show l.2 = k; omega) h2
    rw [if_pos ⟨h1.1, h3⟩] at ih
    rw [show l.2 - k = (l.2 - (k + 1)) + 1 by omega, List.getElem?_cons_succ]
    exact ih
  ·rw [if_neg h1]
   have h2 : ¬ l = (m, k) := by intro e; subst e; exact h1 ⟨rfl, Nat.le_refl _⟩
   rw [if_neg h2]
   rw [if_neg (by intro h; exact h1 ⟨h.1, by omega⟩)] at ih
   exact ih
theorem addS_put (n : Nat) (ls : List Loc) (m k : Nat) (S1 : Store) : addS n ls m k S1 S = putS (packF n ls m k) (fun p => p.1 == n) S1 m k ls S := by
 funext l
 rw [putS_at]
 rfl
theorem putS_nil (f : Loc → Option Loc) (z : Loc → Bool) (S1 : Store) (m k : Nat) : putS f z S1 m k [] S = S := rfl
theorem putS_cons (f : Loc → Option Loc) (z : Loc → Bool) (S1 : Store) (m k : Nat) (q : Loc) (r : List Loc) : putS f z S1 m k (q :: r) S = updO (putS f z S1 m (k + 1) r S) (m, k) ((S1 q).map (renObj S1 f z)) := rfl
def frees (S : Store) (L : Nat) : Nat → List Loc → Bool
 | _, [] => true
 | k, _ :: r => (S (L, k)).isNone && frees S L (k + 1) r
theorem frees_all : ∀ (ls : List Loc) (k : Nat), frees S L k ls = (List.range' 0 ls.length).all fun j => (S (L, k + j)).isNone := by
 have key : ∀ (ls : List Loc) (k i : Nat), frees S L (k + i) ls = (List.range' i ls.length).all fun j => (S (L, k + j)).isNone := by
  intro ls
  induction ls with
  | nil => intro k i; rfl
  | cons x r ih =>
   intro k i
   rw [List.length_cons, List.range'_succ, List.all_cons, ← ih k (i + 1)]
   rfl
 intro ls k
 exact key ls k 0
theorem frees_nil (k : Nat) : frees S L k [] = true := rfl
theorem frees_cons (k : Nat) (l : Loc) (r : List Loc) : frees S L k (l :: r) = ((S (L, k)).isNone && frees S L (k + 1) r) := rfl
def takeY (k L d : Nat) (r : T) (S1 S : Store) : List Loc → Bool → Option (T × Store)
 | [], true => some (r, S)
 | l :: ls, true => if packOk k (l :: ls) S1 = true ∧ (l :: ls).length ≤ 1000 ∧ frees S L (1000 * (d + 1)) (l :: ls) = true then
   some (rename S1 (packF k (l :: ls) L (1000 * (d + 1))) (fun p => p.1 == k) r, addS k (l :: ls) L (1000 * (d + 1)) S1 S) else none
 | _, false => none
theorem takeY_nil (k L d : Nat) (r : T) (S1 : Store) : takeY k L d r S1 S [] true = some (r, S) := rfl
theorem takeY_cons (k L d : Nat) (r : T) (S1 : Store) (l : Loc) (ls : List Loc) : takeY k L d r S1 S (l :: ls) true = if packOk k (l :: ls) S1 = true ∧ (l :: ls).length ≤ 1000 ∧ frees S L (1000 * (d + 1)) (l :: ls) = true then
   some (rename S1 (packF k (l :: ls) L (1000 * (d + 1))) (fun p => p.1 == k) r, addS k (l :: ls) L (1000 * (d + 1)) S1 S) else none := rfl
theorem takeIn_own (k L d : Nat) (r : T) (S1 : Store) : takeIn k L (some d) r S1 S = takeY k L d r S1 S (dedup (locsOf k r)) (lvle k r) := by
 unfold takeIn takeY
 cases hd : dedup (locsOf k r) with
 | nil => cases hl : lvle k r <;> simp
 | cons l ls =>
  cases hl : lvle k r with
  | false => simp
  | true =>
   simp only [Bool.and_true, frees_all, List.range_eq_range', Bool.and_eq_true, decide_eq_true_eq, and_assoc]
theorem takeIn_none (k L : Nat) (r : T) (S1 : Store) : takeIn k L none r S1 S = takeX k L none r S1 S (dedup (locsOf k r)) (lvle k r) := takeIn_eq k none r S1
theorem keepS_cons (l : Loc) (ls : List Loc) (r : T) (S1 : Store) : keepS (l :: ls) r S1 S = if (hasLst r || arrLst S1 (dedup (locsOf 1 r))) = true then setRo S (l :: ls) else S := by
 simp only [keepS, List.isEmpty_cons, Bool.not_false, Bool.true_and]
 cases (hasLst r || arrLst S1 (dedup (locsOf 1 r))) <;> rfl
theorem hl_sc (v : Value) : hasLst (.sc v) = false := rfl
theorem hl_lst (sz : Nat) (xs : List T) : hasLst (.lst sz xs) = true := rfl
theorem hl_own (l : Loc) (g o k : Nat) : hasLst (.own l g o k) = false := rfl
theorem hl_agg (cs : List T) : hasLst (.agg cs) = hasLstL cs := rfl
theorem hl_tup (cs : List T) : hasLst (.tup cs) = hasLstL cs := rfl
theorem hlL_nil : hasLstL [] = false := rfl
theorem hlL_cons (x : T) (xs : List T) : hasLstL (x :: xs) = (hasLst x || hasLstL xs) := rfl
theorem arL_nil : arrLst S [] = false := rfl
def arO : Option Obj → Bool
 | some (.arr ro _ _ _ xs) => ro || hasLstL xs
 | some (.box _ cs) => hasLstL cs
 | _ => false
theorem arL_cons (l : Loc) (ls : List Loc) : arrLst S (l :: ls) = (arO (S l) || arrLst S ls) := by
 simp only [arrLst, List.any_cons, arO]
 cases S l with
 | none => rfl
 | some ob => cases ob <;> rfl
theorem arO_arr (ro : Bool) (g sz : Nat) (e : TypeId) (xs : List T) : arO (some (.arr ro g sz e xs)) = (ro || hasLstL xs) := rfl
theorem upd_none (l : Loc) (o : Option Obj) : updO S l none l = none := by simp [updO]
def fillF {α : Type} (f : Nat → α) (l : List α) (i : Nat) : List α := if i < l.length then fillF f (l.set i (f i)) (i + 1) else l
 termination_by l.length - i
theorem fillF_eq {α : Type} (f : Nat → α) (l : List α) (i : Nat) (h : i ≤ l.length) : fillF f l i = l.take i ++ (List.range' i (l.length - i)).map f := by
 fun_induction fillF f l i with
 | case1 l i hi ih =>
  rw [ih (by simp; omega)]
  have h2 : l.length - i = (l.length - (i + 1)) + 1 := by omega
  simp only [List.length_set, h2, List.range'_succ, List.map_cons]
  rw [List.take_succ_eq_append_getElem (by simpa using hi), List.take_set_of_le (Nat.le_refl _)]
  simp
 | case2 l i hi =>
  have : i = l.length := by omega
  subst this; simp
theorem fillF_zero {α : Type} (f : Nat → α) (l : List α) : fillF f l 0 = (List.range l.length).map f := by
 rw [fillF_eq f l 0 (Nat.zero_le _), List.range_eq_range']; simp
theorem fillF_len {α : Type} (f : Nat → α) (l : List α) (i : Nat) : (fillF f l i).length = l.length := by
 fun_induction fillF f l i <;> simp_all
def bl (l : List Bool) : List T := l.map fun b => .sc (.bool b)
def ul (l : List Nat) : List T := l.map fun b : Nat => .sc (.int .u8 (b : Int))
def il (l : List Int) : List T := l.map fun b : Int => .sc (.int .i64 b)
def gb (l : List Bool) (i : Nat) : Bool := l.getD i false
def gn (l : List Nat) (i : Nat) : Nat := l.getD i 0
def gi (l : List Int) (i : Nat) : Int := l.getD i 0
theorem bl_len (l : List Bool) : (bl l).length = l.length := by simp [bl]
theorem ul_len (l : List Nat) : (ul l).length = l.length := by simp [ul]
theorem il_len (l : List Int) : (il l).length = l.length := by simp [il]
theorem bl_get (l : List Bool) (i : Nat) (h : i < l.length) : (bl l)[i]? = some (.sc (.bool (gb l i))) := by simp [bl, gb, h]
theorem ul_get (l : List Nat) (i : Nat) (h : i < l.length) : (ul l)[i]? = some (.sc (.int .u8 (gn l i : Nat))) := by simp [ul, gn, h]
theorem il_get (l : List Int) (i : Nat) (h : i < l.length) : (il l)[i]? = some (.sc (.int .i64 (gi l i))) := by simp [il, gi, h]
theorem bl_set (l : List Bool) (i : Nat) (b : Bool) : (bl l).set i (.sc (.bool b)) = bl (l.set i b) := by simp [bl, List.map_set]
theorem ul_set_l (l : List Nat) (i k : Nat) : (ul l).set i (.sc (.int .u8 (no_index (OfNat.ofNat k : Int)))) = ul (l.set i (OfNat.ofNat k)) := by
 show (ul l).set i (.sc (.int .u8 ((k : Nat) : Int))) = _
 simp [ul, List.map_set]; rfl
theorem ul_app1_l (l : List Nat) (k : Nat) : ul l ++ [.sc (.int .u8 (no_index (OfNat.ofNat k : Int)))] = ul (l ++ [OfNat.ofNat k]) := by
 show ul l ++ [.sc (.int .u8 ((k : Nat) : Int))] = _
 simp [ul]; rfl
theorem ul_set (l : List Nat) (i : Nat) (b : Nat) : (ul l).set i (.sc (.int .u8 (b : Int))) = ul (l.set i b) := by simp [ul, List.map_set]
theorem il_set (l : List Int) (i : Nat) (b : Int) : (il l).set i (.sc (.int .i64 b)) = il (l.set i b) := by simp [il, List.map_set]
theorem bl_app (l m : List Bool) : bl l ++ bl m = bl (l ++ m) := by simp [bl]
theorem ul_app (l m : List Nat) : ul l ++ ul m = ul (l ++ m) := by simp [ul]
theorem il_app (l m : List Int) : il l ++ il m = il (l ++ m) := by simp [il]
theorem bl_app1 (l : List Bool) (b : Bool) : bl l ++ [.sc (.bool b)] = bl (l ++ [b]) := by simp [bl]
theorem ul_app1 (l : List Nat) (b : Nat) : ul l ++ [.sc (.int .u8 (b : Int))] = ul (l ++ [b]) := by simp [ul]
theorem il_app1 (l : List Int) (b : Int) : il l ++ [.sc (.int .i64 b)] = il (l ++ [b]) := by simp [il]
theorem bl_take (l : List Bool) (k : Nat) : (bl l).take k = bl (l.take k) := by simp [bl, List.map_take]
theorem ul_take (l : List Nat) (k : Nat) : (ul l).take k = ul (l.take k) := by simp [ul, List.map_take]
theorem il_take (l : List Int) (k : Nat) : (il l).take k = il (l.take k) := by simp [il, List.map_take]
theorem bl_drop (l : List Bool) (k : Nat) : (bl l).drop k = bl (l.drop k) := by simp [bl, List.map_drop]
theorem ul_drop (l : List Nat) (k : Nat) : (ul l).drop k = ul (l.drop k) := by simp [ul, List.map_drop]
theorem il_drop (l : List Int) (k : Nat) : (il l).drop k = il (l.drop k) := by simp [il, List.map_drop]
theorem bl_rep (n : Nat) (b : Bool) : List.replicate n (T.sc (.bool b)) = bl (List.replicate n b) := by simp [bl]
theorem ul_rep (n : Nat) (b : Nat) : List.replicate n (T.sc (.int .u8 (b : Int))) = ul (List.replicate n b) := by simp [ul]
theorem ul_rep0 (n : Nat) : List.replicate n (T.sc (.int .u8 0)) = ul (List.replicate n 0) := by simp [ul]
theorem bl_closed (l : List Bool) : closedL (bl l) = true := by induction l with | nil => rfl | cons x xs ih => simp only [bl, List.map_cons, closedL, Bool.and_eq_true] at ih ⊢; exact ⟨rfl, ih⟩
theorem ul_closed (l : List Nat) : closedL (ul l) = true := by induction l with | nil => rfl | cons x xs ih => simp only [ul, List.map_cons, closedL, Bool.and_eq_true] at ih ⊢; exact ⟨rfl, ih⟩
theorem il_closed (l : List Int) : closedL (il l) = true := by induction l with | nil => rfl | cons x xs ih => simp only [il, List.map_cons, closedL, Bool.and_eq_true] at ih ⊢; exact ⟨rfl, ih⟩
theorem bl_hl (l : List Bool) : hasLstL (bl l) = false := by induction l with | nil => rfl | cons x xs ih => exact ih
theorem ul_hl (l : List Nat) : hasLstL (ul l) = false := by induction l with | nil => rfl | cons x xs ih => exact ih
theorem il_hl (l : List Int) : hasLstL (il l) = false := by induction l with | nil => rfl | cons x xs ih => exact ih
theorem il_sing (x : Int) : il [x] = [.sc (.int .i64 x)] := rfl
theorem bl_sing (x : Bool) : bl [x] = [.sc (.bool x)] := rfl
theorem ul_sing (x : Nat) : ul [x] = [.sc (.int .u8 (x : Int))] := rfl
theorem il_nil : il [] = [] := rfl
theorem ul_nil : ul [] = [] := rfl
theorem bl_nil : bl [] = [] := rfl
theorem bl_emp (l : List Bool) : (bl l).isEmpty = l.isEmpty := by cases l <;> rfl
theorem ul_emp (l : List Nat) : (ul l).isEmpty = l.isEmpty := by cases l <;> rfl
theorem il_emp (l : List Int) : (il l).isEmpty = l.isEmpty := by cases l <;> rfl
def shrI (k : IntKind) (a : Int) (b : Nat) : Int := a.fdiv (2 ^ min b k.bits)
theorem n_shr (k k' : IntKind) (a : Int) (b : Nat) : binT .shr (.sc (.int k a)) (.sc (.int k' (b : Int))) = some (.sc (.int k (shrI k a b))) := by
 rw [b_shr _ _ _ _ (by omega), Int.toNat_natCast]; rfl
theorem n_shr_l (k k' : IntKind) (a : Int) (b : Nat) : binT .shr (.sc (.int k a)) (.sc (.int k' (no_index (OfNat.ofNat b : Int)))) = some (.sc (.int k (shrI k a (OfNat.ofNat b)))) := n_shr k k' a b
def shlI (k : IntKind) (a : Int) (b : Nat) : Int := k.wrap (a * 2 ^ min b k.bits)
def andI (k : IntKind) (a b : Int) : Int := k.wrap (BitVec.ofInt k.bits a &&& BitVec.ofInt k.bits b).toNat
def orI (k : IntKind) (a b : Int) : Int := k.wrap (BitVec.ofInt k.bits a ||| BitVec.ofInt k.bits b).toNat
theorem n_and (k : IntKind) (a b : Int) : binT .and (.sc (.int k a)) (.sc (.int k b)) = some (.sc (.int k (andI k a b))) := b_and k a b
theorem n_or (k : IntKind) (a b : Int) : binT .or (.sc (.int k a)) (.sc (.int k b)) = some (.sc (.int k (orI k a b))) := b_or k a b
theorem andI_one (a : Int) : andI .i64 a 1 = a % 2 := by
 unfold andI
 have h1 : (BitVec.ofInt IntKind.i64.bits 1) = 1#64 := rfl
 have h2 : (BitVec.ofInt IntKind.i64.bits a &&& BitVec.ofInt IntKind.i64.bits 1).toNat = (a % 2).toNat := by
  rw [h1]
  show (BitVec.ofInt 64 a &&& 1#64).toNat = _
  rw [BitVec.toNat_and, BitVec.toNat_ofInt, show (1#64 : BitVec 64).toNat = 1 from rfl, Nat.and_one_is_mod]
  omega
 rw [h2, IntKind.wrap_i64]
 omega
theorem orI_u8 (a b : Nat) (ha : a < 256) (hb : b < 256) : orI .u8 (a : Int) (b : Int) = ((a ||| b : Nat) : Int) := by
 unfold orI
 have h1 : (BitVec.ofInt IntKind.u8.bits (a : Int) ||| BitVec.ofInt IntKind.u8.bits (b : Int)).toNat = a ||| b := by
  show (BitVec.ofInt 8 (a : Int) ||| BitVec.ofInt 8 (b : Int)).toNat = _
  rw [BitVec.toNat_or, BitVec.toNat_ofInt, BitVec.toNat_ofInt]
  congr 1 <;> omega
 have h2 : a ||| b < 2 ^ 8 := Nat.or_lt_two_pow (by omega) (by omega)
 rw [h1, IntKind.wrap_u8]
 omega
theorem orI_u8_l (a b : Nat) (ha : a < 256) (hb : OfNat.ofNat b < 256) : orI .u8 (a : Int) (no_index (OfNat.ofNat b : Int)) = ((a ||| OfNat.ofNat b : Nat) : Int) := orI_u8 a b ha hb
def m2 (x : Int) : Nat := (x % 2).toNat
theorem wr8_mod2 (x : Int) : IntKind.u8.wrap (x % 2) = ((m2 x : Nat) : Int) := by rw [IntKind.wrap_u8]; unfold m2; omega
theorem wr8_subn (a k : Nat) (h : OfNat.ofNat k ≤ a) (h2 : a < 256) : IntKind.u8.wrap ((a : Int) - no_index (OfNat.ofNat k : Int)) = ((a - OfNat.ofNat k : Nat) : Int) := by
 rw [IntKind.wrap_u8]
 have : ((OfNat.ofNat k : Nat) : Int) = (OfNat.ofNat k : Int) := rfl
 have h3 : (OfNat.ofNat k : Nat) = k := rfl
 rw [h3] at h
 rw [← this, h3]; omega
theorem wr_muln (a k : Nat) (h : OfNat.ofNat k * a < 2 ^ 63) : IntKind.i64.wrap (no_index (OfNat.ofNat k : Int) * (a : Int)) = ((OfNat.ofNat k * a : Nat) : Int) := by
 rw [IntKind.wrap_i64]
 have : ((OfNat.ofNat k : Nat) : Int) = (OfNat.ofNat k : Int) := rfl
 have h3 : (OfNat.ofNat k : Nat) = k := rfl
 rw [h3] at h
 rw [← this, h3, ← Int.natCast_mul]; omega
def sl (l : List UInt8) : List T := l.map bT
theorem s2b_sl (l : List UInt8) : s2bT (.sc (str l)) = some (.lst 1 (sl l)) := rfl
theorem sl_len (l : List UInt8) : (sl l).length = l.length := by simp [sl]
theorem sl_get (l : List UInt8) (i : Nat) (h : i < l.length) : (sl l)[i]? = some (.sc (.int .u8 (B l i))) := by simp [sl, bT, B, h]
theorem sl_closed (l : List UInt8) : closedL (sl l) = true := by induction l with | nil => rfl | cons x xs ih => simp only [sl, List.map_cons, closedL, Bool.and_eq_true] at ih ⊢; exact ⟨rfl, ih⟩
theorem idx_B_l (s : List UInt8) (k : IntKind) (i : Nat) (h : OfNat.ofNat i < s.length) : idxST (.sc (str s)) (.sc (.int k (no_index (OfNat.ofNat i : Int)))) = some (.sc (.int .u8 (B s (OfNat.ofNat i)))) := idx_B s k i h
def pre (k : Nat) : Int := (k : Int) - 1
theorem pre_zero : pre 0 = -1 := rfl
theorem pre_succ (k : Nat) : pre (k + 1) = k := by unfold pre; omega
theorem wr_pre (k : Nat) (h : k < 2 ^ 63) : IntKind.i64.wrap ((k : Int) - 1) = pre k := by rw [IntKind.wrap_i64]; unfold pre; omega
theorem n_shl (k k' : IntKind) (a : Int) (b : Nat) : binT .shl (.sc (.int k a)) (.sc (.int k' (b : Int))) = some (.sc (.int k (shlI k a b))) := by
 rw [b_shl _ _ _ _ (by omega), Int.toNat_natCast]; rfl
def beqT (ne : Bool) : T → T → Option T
 | .sc (.bool a), .sc (.bool b) => some (.sc (.bool (bif ne then !(a == b) else a == b)))
 | _, _ => none
theorem rX_beq {ne : Bool} {x y : Operand} : evX call om L dd s S (.beq ne x y) = liftX S (two (beqT ne) (ev s x) (ev s y)) := by
 simp only [evX]
 cases ev s x with
 | none => cases ev s y <;> rfl
 | some u =>
  cases ev s y with
  | none => cases u with
   | sc v => cases v <;> rfl
   | _ => rfl
  | some w => cases u with
   | sc v => cases v with
    | bool a => cases w with
     | sc v => cases v <;> rfl
     | _ => rfl
    | _ => cases w <;> rfl
   | _ => cases w <;> rfl
theorem beqT_t (a b : Bool) : beqT true (.sc (.bool a)) (.sc (.bool b)) = some (.sc (.bool (a != b))) := rfl
theorem beqT_f (a b : Bool) : beqT false (.sc (.bool a)) (.sc (.bool b)) = some (.sc (.bool (a == b))) := rfl
def mkfX (f : FuncId) : Option (List T) → Option T
 | some cs => some (.clo f cs)
 | none => none
theorem rX_mkf {f : FuncId} {cs : List Operand} : evX call om L dd s S (.mkf f cs) = liftX S (mkfX f (evL s cs)) := by
 simp only [evX, mkfX]; cases evL s cs <;> rfl
theorem mkfX_some (f : FuncId) (cs : List T) : mkfX f (some cs) = some (.clo f cs) := rfl
theorem ev_nf : ev s (.const .nilFunc) = some (.sc .nilFunc) := rfl
theorem isSc_nf : isSc .nilFunc = true := rfl
def fldX (o n : Nat) (ag : Bool) : T → Option T
 | .agg cs => readAt ag n cs o
 | _ => none
theorem rX_field {o n : Nat} {ag : Bool} {x : Operand} : evX call om L dd s S (.field o n ag x) = liftX S (opt1 (fldX o n ag) (ev s x)) := by
 simp only [evX]
 cases ev s x with
 | none => rfl
 | some u => cases u with
  | agg cs => exact mapLift _
  | _ => rfl
def aidX (ag : Bool) (sz n : Nat) : T → T → Option T
 | .agg cs, .sc (.int _ m) => bif idxOk m n then readAt ag sz cs (m.toNat * sz) else none
 | _, _ => none
theorem fldX_agg (o n : Nat) (ag : Bool) (cs : List T) : fldX o n ag (.agg cs) = readAt ag n cs o := rfl
def cpX (S : Store) : Option T → Option T → Option (T × Store)
 | some x, some y => cpyR S x y
 | _, _ => none
theorem rX_cpy {x y : Operand} : evX call om L dd s S (.cpy x y) = cpX S (ev s x) (ev s y) := by
 simp only [evX, cpX]; cases ev s x <;> cases ev s y <;> rfl
def cpO (S : Store) (l : Loc) (g off len : Nat) (sy : Option Nat) (ys : List T) : Option Obj → Option (T × Store)
 | some (.arr ro g' sz' e xs) => if ro = false ∧ g = g' ∧ sz' = 1 ∧ (sy = none ∨ sy = some 1) ∧ off + len ≤ xs.length then
     some (.sc (.int .i64 (min ys.length len : Nat)), upd S l (.arr false g 1 e (splice xs off (ys.take (min ys.length len))))) else none
 | _ => none
def cpK (S : Store) (l : Loc) (g off len : Nat) : Option (Option Nat × List T) → Option (T × Store)
 | some (sy, ys) => cpO S l g off len sy ys (S l)
 | none => none
theorem cpX_own (l : Loc) (g off len : Nat) (y : T) : cpX S (some (.own l g off len)) (some y) = cpK S l g off len (el S y) := by
 simp only [cpX, cpyR, cpK]
 have := elemsOf_el (S := S) y
 cases hq : elemsOf S y with
 | none => rw [hq] at this; simp at this; rw [← this]
 | some p =>
  obtain ⟨sy, ys, f⟩ := p
  rw [hq] at this
  simp only [Option.map_some] at this
  rw [← this]
  simp only [cpO]
  cases S l with
  | none => rfl
  | some ob => cases ob <;> rfl
theorem cpK_some (l : Loc) (g off len : Nat) (sy : Option Nat) (ys : List T) : cpK S l g off len (some (sy, ys)) = cpO S l g off len sy ys (S l) := rfl
theorem cpO_arr (l : Loc) (g off len : Nat) (sy : Option Nat) (ys : List T) (ro : Bool) (g' sz' : Nat) (e : TypeId) (xs : List T) : cpO S l g off len sy ys (some (.arr ro g' sz' e xs)) = if ro = false ∧ g = g' ∧ sz' = 1 ∧ (sy = none ∨ sy = some 1) ∧ off + len ≤ xs.length then
     some (.sc (.int .i64 (min ys.length len : Nat)), upd S l (.arr false g 1 e (splice xs off (ys.take (min ys.length len))))) else none := rfl
def nl (sz : Nat) (xs : List T) : T := if xs.isEmpty = true then .sc (.slice none 0 0) else .lst sz xs
theorem nl_len (sz : Nat) (xs : List T) : lenT (nl sz xs) = some (.sc (.int .i64 xs.length)) := by cases xs <;> simp [nl]
theorem nl_ia (sz sz' : Nat) (xs : List T) (k : IntKind) (i : Nat) : iaddrR sz S (nl sz' xs) (.sc (.int k (i : Int))) = if sz = sz' ∧ i < xs.length then some (.lptr sz xs i 0) else none := by
 cases xs with
 | nil => simp [nl, iaddrR]
 | cons x xs => simp only [nl, List.isEmpty_cons, Bool.false_eq_true, if_false, ia_lst]
theorem nl_ia_l (sz sz' : Nat) (xs : List T) (k : IntKind) (i : Nat) : iaddrR sz S (nl sz' xs) (.sc (.int k (no_index (OfNat.ofNat i : Int)))) = if sz = sz' ∧ OfNat.ofNat i < xs.length then some (.lptr sz xs (OfNat.ofNat i) 0) else none := nl_ia sz sz' xs k i
theorem nl_snap (sz : Nat) (xs : List T) : snap S (nl sz xs) = some (nl sz xs, []) := by cases xs <;> rfl
theorem nl_snapR (sz : Nat) (xs : List T) : snapR S (nl sz xs) = some (nl sz xs, []) := by cases xs <;> rfl
theorem nl_closed (sz : Nat) (xs : List T) : closed (nl sz xs) = closedL xs := by cases xs <;> simp [nl]
theorem nl_one (sz : Nat) (xs : List T) : one (nl sz xs) = true := by cases xs <;> rfl
theorem nl_cells (sz : Nat) (xs : List T) : (nl sz xs).cells = [nl sz xs] := by cases xs <;> rfl
theorem nl_locs (k sz : Nat) (xs : List T) : locsOf k (nl sz xs) = [] := by cases xs <;> rfl
theorem nl_lv (k sz : Nat) (xs : List T) : lvle k (nl sz xs) = true := by cases xs <;> rfl
theorem nl_ren (f : Loc → Option Loc) (z : Loc → Bool) (sz : Nat) (xs : List T) : rename S f z (nl sz xs) = nl sz xs := by cases xs <;> rfl
theorem nl_nil (sz : Nat) : nl sz [] = .sc (.slice none 0 0) := rfl
theorem nl_cons (sz : Nat) (x : T) (xs : List T) : nl sz (x :: xs) = .lst sz (x :: xs) := rfl
theorem nl_il (sz : Nat) (x : Int) (l : List Int) : nl sz (il (x :: l)) = .lst sz (il (x :: l)) := rfl
theorem nl_bl (sz : Nat) (x : Bool) (l : List Bool) : nl sz (bl (x :: l)) = .lst sz (bl (x :: l)) := rfl
theorem nl_ul (sz : Nat) (x : Nat) (l : List Nat) : nl sz (ul (x :: l)) = .lst sz (ul (x :: l)) := rfl
theorem one_lst (sz : Nat) (xs : List T) : one (.lst sz xs) = true := rfl
theorem cells_lst (sz : Nat) (xs : List T) : (T.lst sz xs).cells = [.lst sz xs] := rfl
theorem one_own (l : Loc) (g o k : Nat) : one (.own l g o k) = true := rfl
theorem cells_own (l : Loc) (g o k : Nat) : (T.own l g o k).cells = [.own l g o k] := rfl
theorem one_ptr (l : Loc) (o : Nat) : one (.ptr l o) = true := rfl
theorem cells_ptr (l : Loc) (o : Nat) : (T.ptr l o).cells = [.ptr l o] := rfl
theorem maxRow_eq : maxRow = 1000000000 := rfl
end
attribute [simp] rX_mk mkX_n mkX_l newArr_d freeze_eq frK_some freezeL_nil freezeL_cons frL_some frC_some rX_bsl bslX_some bslK_some born_nil born_false el_lst el_own el_nil elO_arr rX_app apX_some apK_nil apK_own apO_arr
 ia_own ia_own_l iaO_arr ia_lst ia_lst_l ldQ_some ld_lptr ld_aptr ldA_arr st_aptr stA_some stB_arr rX_slc sbn_n sbn_s slX_lst slX_own slO_arr slK_n slK_a slK_b rX_b2s b2sY_some b2sX_map b2sX_nil
 posOf_nil posOf_same posOf_ne packF_ap packOk_nil packOk_cons pkO_arr pkO_box addS_put putS_nil putS_cons
 bl_len ul_len il_len bl_get ul_get il_get bl_set ul_set il_set bl_app ul_app il_app bl_app1 ul_app1 il_app1 bl_take ul_take il_take bl_drop ul_drop il_drop bl_rep ul_rep ul_rep0 bl_closed ul_closed il_closed bl_emp ul_emp il_emp maxRow_eq nl_len nl_ia nl_ia_l nl_snap nl_snapR nl_closed nl_one nl_cells nl_locs nl_lv nl_ren nl_nil nl_cons one_lst cells_lst one_own cells_own one_ptr cells_ptr
attribute [simp] ul_set_l ul_app1_l nl_il nl_bl nl_ul il_sing bl_sing ul_sing il_nil ul_nil bl_nil s2b_sl sl_len sl_closed idx_B_l orI_u8 orI_u8_l wr8_mod2 wr8_subn wr_muln sl_get pre_zero pre_succ keepS_cons hl_sc hl_lst hl_own hl_agg hl_tup hlL_nil hlL_cons arL_nil arL_cons arO_arr bl_hl ul_hl il_hl n_shr n_shr_l n_shl n_and n_or andI_one rX_beq beqT_t beqT_f rX_mkf mkfX_some ev_nf isSc_nf rX_field fldX_agg rX_cpy cpX_own cpK_some cpO_arr takeIn_own takeIn_none takeY_nil takeY_cons frees_nil frees_cons
end Go.TM
namespace Go.TM
open Go
section
variable {call : CallF} {om : FuncId → List Nat} {L : Nat} {s : Slots} {S : Store} {dd : Option Nat}
theorem ev_pnil : ev s (.const (.pointer none)) = some (.sc (.pointer none)) := rfl
theorem ev_nilI : ev s (.const .nilIface) = some (.sc .nilIface) := rfl
theorem isSc_nilI : isSc .nilIface = true := rfl
theorem isSc_pnil : isSc (.pointer none) = true := rfl
theorem rX_bad : evX call om L dd s S .bad = none := rfl
def nckT : T → Option T
 | .ptr l o => some (.ptr l o)
 | _ => none
theorem rX_nck {x : Operand} : evX call om L dd s S (.nck x) = liftX S (opt1 nckT (ev s x)) := by
 simp only [evX]
 cases ev s x with
 | none => rfl
 | some u => cases u <;> rfl
theorem nckT_ptr (l : Loc) (o : Nat) : nckT (.ptr l o) = some (.ptr l o) := rfl
def peqX (ng : Bool) (a b : T) : Option T := (peqR a b).map fun r => .sc (.bool (r != ng))
theorem rX_peq {ng : Bool} {x y : Operand} : evX call om L dd s S (.peq ng x y) = liftX S (two (peqX ng) (ev s x) (ev s y)) := by
 simp only [evX]
 cases ev s x with
 | none => cases ev s y <;> rfl
 | some u => cases ev s y with
  | none => rfl
  | some v => simp only [peqX, two]; cases peqR u v <;> rfl
theorem peq_nn (ng : Bool) : peqX ng (.sc (.pointer none)) (.sc (.pointer none)) = some (.sc (.bool (!ng))) := by cases ng <;> rfl
theorem peq_pn (ng : Bool) (l : Loc) (o : Nat) : peqX ng (.ptr l o) (.sc (.pointer none)) = some (.sc (.bool ng)) := by cases ng <;> rfl
theorem peq_np (ng : Bool) (l : Loc) (o : Nat) : peqX ng (.sc (.pointer none)) (.ptr l o) = some (.sc (.bool ng)) := by cases ng <;> rfl
theorem peq_an (ng : Bool) (l : Loc) (g i o : Nat) : peqX ng (.aptr l g i o) (.sc (.pointer none)) = some (.sc (.bool ng)) := by cases ng <;> rfl
theorem peq_ln (ng : Bool) (sz : Nat) (xs : List T) (i o : Nat) : peqX ng (.lptr sz xs i o) (.sc (.pointer none)) = some (.sc (.bool ng)) := by cases ng <;> rfl
theorem peq_pp (ng : Bool) (l : Loc) (o : Nat) : peqX ng (.ptr l o) (.ptr l o) = some (.sc (.bool (!ng))) := by
 simp only [peqX, peqR, ptrEq, and_self, if_true, Option.map_some]; cases ng <;> rfl
def toUO (l : Loc) (off : Nat) : Option Obj → Option T
 | some (.box _ cs) => if off < cs.length then some (.ptr l off) else none
 | _ => none
theorem rX_toU {x : Operand} : evX call om L dd s S (.toU x) = liftX S (opt1 (toUR S) (ev s x)) := by
 simp only [evX]
 cases ev s x with
 | none => rfl
 | some u => exact mapLift _
theorem toUR_ptr (l : Loc) (off : Nat) : toUR S (.ptr l off) = toUO l off (S l) := by
 simp only [toUR, toUO]; cases S l with
 | none => rfl
 | some ob => cases ob <;> rfl
theorem toUO_box (l : Loc) (off : Nat) (bt : TypeId) (cs : List T) : toUO l off (some (.box bt cs)) = if off < cs.length then some (.ptr l off) else none := rfl
def ofUO (u : List TypeId) (n : Nat) (l : Loc) (off : Nat) : Option Obj → Option T
 | some (.box bt cs) => if u.contains (ofC bt cs.length n) = true ∧ off = 0 ∧ bt < 1000000 ∧ 0 < cs.length then some (.ptr l off) else none
 | _ => none
theorem rX_ofU {u : List TypeId} {n : Nat} {x : Operand} : evX call om L dd s S (.ofU u n x) = liftX S (opt1 (ofUR u n S) (ev s x)) := by
 simp only [evX]
 cases ev s x with
 | none => rfl
 | some u => exact mapLift _
theorem ofUR_ptr (u : List TypeId) (n : Nat) (l : Loc) (off : Nat) : ofUR u n S (.ptr l off) = ofUO u n l off (S l) := by
 simp only [ofUR, ofUO]; cases S l with
 | none => rfl
 | some ob => cases ob <;> rfl
theorem ofUO_box (u : List TypeId) (n : Nat) (l : Loc) (off : Nat) (bt : TypeId) (cs : List T) : ofUO u n l off (some (.box bt cs)) = if u.contains (ofC bt cs.length n) = true ∧ off = 0 ∧ bt < 1000000 ∧ 0 < cs.length then some (.ptr l off) else none := rfl
def usdO (l : Loc) (g off len : Nat) : Option Obj → Option T
 | some (.arr _ g' _ _ _) => if g = g' ∧ 0 < len then some (.aptr l g off 0) else none
 | _ => none
theorem rX_usd {x : Operand} : evX call om L dd s S (.usd x) = liftX S (opt1 (usdT S) (ev s x)) := by
 simp only [evX]
 cases ev s x with
 | none => rfl
 | some u => exact mapLift _
theorem usd_own (l : Loc) (g off len : Nat) : usdT S (.own l g off len) = usdO l g off len (S l) := by
 simp only [usdT, usdO]; cases S l with
 | none => rfl
 | some ob => cases ob <;> rfl
theorem usd_nil (n c : Nat) : usdT S (.sc (.slice none n c)) = some (.sc (.pointer none)) := rfl
theorem usdO_arr (l : Loc) (g off len : Nat) (ro : Bool) (g' sz : Nat) (e : TypeId) (xs : List T) : usdO l g off len (some (.arr ro g' sz e xs)) = if g = g' ∧ 0 < len then some (.aptr l g off 0) else none := rfl
def q_ustrK (e : TypeId) (S : Store) : Option T → Option T → Option (T × Store)
 | some a, some b => ustrR e S a b
 | _, _ => none
theorem rX_ustr {e : TypeId} {p n : Operand} : evX call om L dd s S (.ustr e p n) = q_ustrK e S (ev s p) (ev s n) := by
 simp only [evX]
 cases ev s p <;> cases ev s n <;> rfl
theorem ustr_nil (e : TypeId) : q_ustrK e S (some (.sc (.pointer none))) (some (.sc (.int .i64 0))) = some (.sc (str []), S) := rfl
def ustrO (e : TypeId) (S : Store) (l : Loc) (g i off n : Nat) : Option Obj → Option (T × Store)
 | some (.arr ro g' sz e' xs) => if g = g' ∧ ro = false ∧ i = 0 ∧ off = 0 ∧ sz = 1 ∧ e' = e ∧ (0 : Int) < n ∧ n ≤ xs.length ∧ (n : Int) ≤ 9223372036854775807 ∧ (xs.take n).all isByte = true then
    (bytesV (xs.take n)).map fun bs => (.sc (.string ⟨bs.toArray⟩), setRo S [l]) else none
 | _ => none
theorem ustr_ap (e : TypeId) (l : Loc) (g i off n : Nat) : q_ustrK e S (some (.aptr l g i off)) (some (.sc (.int .i64 (n : Int)))) = ustrO e S l g i off n (S l) := by
 simp only [q_ustrK, ustrR, ustrO, Int.toNat_natCast]; cases S l with
 | none => rfl
 | some ob => cases ob <;> rfl
theorem ustr_ap_l (e : TypeId) (l : Loc) (g i off n : Nat) : q_ustrK e S (some (.aptr l g i off)) (some (.sc (.int .i64 (no_index (OfNat.ofNat n : Int))))) = ustrO e S l g i off (OfNat.ofNat n) (S l) := ustr_ap e l g i off n
theorem bytes_all (l : List UInt8) : (l.map bT).all isByte = true := by
 rw [List.all_map]
 refine List.all_eq_true.2 fun b _ => ?_
 have := UInt8.toNat_lt b
 simp [bT, isByte]
 omega
theorem ustrO_row (e : TypeId) (l : Loc) (g i off n : Nat) (ro : Bool) (g' sz : Nat) (e' : TypeId) (b : List UInt8) : ustrO e S l g i off n (some (.arr ro g' sz e' (b.map bT))) =
  if g = g' ∧ ro = false ∧ i = 0 ∧ off = 0 ∧ sz = 1 ∧ e' = e ∧ 0 < n ∧ n ≤ b.length ∧ n < 2 ^ 63 then some (.sc (str (b.take n)), setRo S [l]) else none := by
 simp only [ustrO, ← List.map_take, bytes_all, bytesV_map, List.length_map, Option.map_some, and_true]
 refine ite_congr (propext ?_) (fun _ => rfl) (fun _ => rfl)
 constructor
 ·rintro ⟨h1, h2, h3, h4, h5, h6, h7, h8, h9⟩; exact ⟨h1, h2, h3, h4, h5, h6, by omega, h8, by omega⟩
 ·rintro ⟨h1, h2, h3, h4, h5, h6, h7, h8, h9⟩; exact ⟨h1, h2, h3, h4, h5, h6, by omega, h8, by omega⟩
def apsX (lp : Nat × Option Nat) (S : Store) (e : TypeId) (x : Option T) : Option T → Option (T × Store)
 | some (.sc (.string b)) => apK lp S e 1 x (some (some 1, bytesT b))
 | _ => none
theorem rX_apps {e : TypeId} {x y : Operand} : evX call om L dd s S (.apps e x y) = apsX (lowP om L dd e) S e (ev s x) (ev s y) := by
 cases hy : ev s y with
 | none => simp only [evX, hy, apsX]; cases ev s x <;> rfl
 | some v =>
  cases v with
  | sc v => cases v with
   | string b =>
    have := rX_app (call := call) (om := om) (L := L) (dd := dd) (S := S) (s := [(0, (ev s x).getD .undef), (1, .lst 1 (bytesT b))]) (e := e) (sz := 1) (x := .tmp 0) (y := .tmp 1)
    cases hx : ev s x with
    | none => simp only [evX, hx, hy, apsX, apK]; simp
    | some u =>
     simp only [hx, Option.getD_some] at this
     simp only [evX, hx, hy, apsX]
     exact this
   | _ => simp only [evX, hy, apsX]; cases ev s x <;> rfl
  | _ => simp only [evX, hy, apsX]; cases ev s x <;> rfl
theorem bytesT_str (b : List UInt8) : bytesT ⟨b.toArray⟩ = b.map bT := by simp [bytesT, bT]
theorem aps_str (lp : Nat × Option Nat) (e : TypeId) (x : Option T) (b : List UInt8) : apsX lp S e x (some (.sc (str b))) = apK lp S e 1 x (some (some 1, b.map bT)) := by
 rw [← bytesT_str]; rfl
end
attribute [simp] ofC ev_nilI isSc_nilI ev_pnil isSc_pnil rX_bad rX_nck nckT_ptr rX_peq peq_nn peq_pn peq_np peq_an peq_ln peq_pp rX_toU toUR_ptr toUO_box rX_ofU ofUR_ptr ofUO_box rX_usd usd_own usd_nil usdO_arr rX_ustr ustr_nil ustr_ap ustr_ap_l ustrO_row rX_apps aps_str
end Go.TM
namespace Go.TM
open Go
section
variable {E : Env} {L n : Nat} {s : Slots} {S : Store} {dd : Option Nat} {call : CallF} {om : FuncId → List Nat} {ks : List Kt} {st : St}
def gs (b : Bool) (sz : Nat) (xs : List T) : T := if b = true ∧ xs = [] then .sc (.slice none 0 0) else .lst sz xs
theorem gs_cases (b : Bool) (sz : Nat) (xs : List T) : (b = true ∧ xs = [] ∧ gs b sz xs = .sc (.slice none 0 0)) ∨ gs b sz xs = .lst sz xs := by
 unfold gs
 by_cases h : b = true ∧ xs = []
 ·rw [if_pos h]; exact .inl ⟨h.1, h.2, rfl⟩
 ·rw [if_neg h]; exact .inr rfl
theorem gs_false (sz : Nat) (xs : List T) : gs false sz xs = .lst sz xs := by unfold gs; simp
theorem gs_true_nil (sz : Nat) : gs true sz [] = .sc (.slice none 0 0) := by unfold gs; simp
theorem gs_cons (b : Bool) (sz : Nat) (x : T) (xs : List T) : gs b sz (x :: xs) = .lst sz (x :: xs) := by unfold gs; simp
theorem gs_len (b : Bool) (sz : Nat) (xs : List T) : lenT (gs b sz xs) = some (.sc (.int .i64 xs.length)) := by
 rcases gs_cases b sz xs with ⟨_, h, e⟩ | e <;> rw [e]
 ·subst h; rfl
 ·rfl
theorem gs_closed (b : Bool) (sz : Nat) (xs : List T) : closed (gs b sz xs) = closedL xs := by
 rcases gs_cases b sz xs with ⟨_, h, e⟩ | e <;> rw [e]
 ·subst h; rfl
 ·simp only [closed]
theorem gs_snap (b : Bool) (sz : Nat) (xs : List T) : snap S (gs b sz xs) = some (gs b sz xs, []) := by
 rcases gs_cases b sz xs with ⟨_, h, e⟩ | e <;> rw [e] <;> rfl
theorem gs_snapR (b : Bool) (sz : Nat) (xs : List T) : snapR S (gs b sz xs) = some (gs b sz xs, []) := by
 rcases gs_cases b sz xs with ⟨_, h, e⟩ | e <;> rw [e] <;> rfl
theorem gs_ren (b : Bool) (sz : Nat) (xs : List T) (f : Loc → Option Loc) (z : Loc → Bool) : rename S f z (gs b sz xs) = gs b sz xs := by
 rcases gs_cases b sz xs with ⟨_, h, e⟩ | e <;> rw [e] <;> rfl
theorem gs_locs (b : Bool) (sz : Nat) (xs : List T) (k : Nat) : locsOf k (gs b sz xs) = [] := by
 rcases gs_cases b sz xs with ⟨_, h, e⟩ | e <;> rw [e] <;> rfl
theorem gs_lv (b : Bool) (sz : Nat) (xs : List T) (k : Nat) : lvle k (gs b sz xs) = true := by
 rcases gs_cases b sz xs with ⟨_, h, e⟩ | e <;> rw [e] <;> rfl
theorem gs_cells (b : Bool) (sz : Nat) (xs : List T) : (gs b sz xs).cells = [gs b sz xs] := by
 rcases gs_cases b sz xs with ⟨_, h, e⟩ | e <;> rw [e] <;> rfl
theorem gs_one (b : Bool) (sz : Nat) (xs : List T) : one (gs b sz xs) = true := by
 rcases gs_cases b sz xs with ⟨_, h, e⟩ | e <;> rw [e] <;> rfl
theorem gs_ia (sz sz' : Nat) (b : Bool) (xs : List T) (k : IntKind) (i : Nat) (h : i < xs.length) : iaddrR sz S (gs b sz' xs) (.sc (.int k (i : Int))) = if sz = sz' then some (.lptr sz xs i 0) else none := by
 have hx : xs ≠ [] := by intro e; subst e; simp at h
 rcases gs_cases b sz' xs with ⟨_, h', e⟩ | e
 ·exact absurd h' hx
 ·rw [e, ia_lst]; simp [h]
theorem gs_ia_l (sz sz' : Nat) (b : Bool) (xs : List T) (k : IntKind) (i : Nat) (h : OfNat.ofNat i < xs.length) : iaddrR sz S (gs b sz' xs) (.sc (.int k (no_index (OfNat.ofNat i : Int)))) = if sz = sz' then some (.lptr sz xs (OfNat.ofNat i) 0) else none := gs_ia sz sz' b xs k i h
def gsz (b : Bool) (sz : Nat) (xs : List T) : Option Nat := if b = true ∧ xs = [] then none else some sz
theorem gs_el (b : Bool) (sz : Nat) (xs : List T) : el S (gs b sz xs) = some (gsz b sz xs, xs) := by
 unfold gs gsz
 by_cases h : b = true ∧ xs = []
 ·rw [if_pos h, if_pos h, h.2]; rfl
 ·rw [if_neg h, if_neg h]; rfl
theorem gsz_ok (b : Bool) (sz : Nat) (xs : List T) : (gsz b sz xs = none ∨ gsz b sz xs = some sz) = True := by
 unfold gsz; split <;> simp
theorem apK_gs {lp : Nat × Option Nat} {e : TypeId} {sz : Nat} {sy : Option Nat} {ys : List T} (b : Bool) (sz' : Nat) : apK lp S e sz (some (gs b sz' [])) (some (sy, ys)) = if b = true then apK lp S e sz (some (.sc (.slice none 0 0))) (some (sy, ys)) else apK lp S e sz (some (.lst sz' [])) (some (sy, ys)) := by
 cases b <;> simp [gs]
theorem gs_hl (b : Bool) (sz : Nat) (x : T) (xs : List T) : hasLst (gs b sz (x :: xs)) = true := by rw [gs_cons]; rfl
def ml {α : Type} (f : α → T) (xs : List α) : List T := xs.map f
def gx {α : Type} [Inhabited α] (xs : List α) (i : Nat) : α := xs.getD i default
theorem ml_len {α : Type} (f : α → T) (xs : List α) : (ml f xs).length = xs.length := by simp [ml]
theorem ml_get {α : Type} [Inhabited α] (f : α → T) (xs : List α) (i : Nat) (h : i < xs.length) : (ml f xs)[i]? = some (f (gx xs i)) := by simp [ml, gx, h]
theorem ml_app {α : Type} (f : α → T) (xs ys : List α) : ml f xs ++ ml f ys = ml f (xs ++ ys) := by simp [ml]
theorem ml_take {α : Type} (f : α → T) (xs : List α) (k : Nat) : (ml f xs).take k = ml f (xs.take k) := by simp [ml, List.map_take]
theorem ml_drop {α : Type} (f : α → T) (xs : List α) (k : Nat) : (ml f xs).drop k = ml f (xs.drop k) := by simp [ml, List.map_drop]
theorem ml_emp {α : Type} (f : α → T) (xs : List α) : (ml f xs).isEmpty = xs.isEmpty := by cases xs <;> rfl
theorem ml_nil {α : Type} (f : α → T) : ml f [] = [] := rfl
theorem ml_set {α : Type} (f : α → T) (xs : List α) (i : Nat) (x : α) : (ml f xs).set i (f x) = ml f (xs.set i x) := by simp [ml, List.map_set]
theorem ml_sing {α : Type} (f : α → T) (x : α) : [f x] = ml f [x] := rfl
theorem ml_app1 {α : Type} (f : α → T) (xs : List α) (x : α) : ml f xs ++ [f x] = ml f (xs ++ [x]) := by simp [ml]
theorem ml_closed {α : Type} (f : α → T) (h : ∀ x, closed (f x) = true) (xs : List α) : closedL (ml f xs) = true := by
 induction xs with
 | nil => rfl
 | cons x xs ih => simp only [ml, List.map_cons, closedL, Bool.and_eq_true] at ih ⊢; exact ⟨h x, ih⟩
theorem gs_iam {α : Type} (f : α → T) (sz sz' : Nat) (b : Bool) (xs : List α) (k : IntKind) (i : Nat) (h : i < xs.length) : iaddrR sz S (gs b sz' (ml f xs)) (.sc (.int k (i : Int))) = if sz = sz' then some (.lptr sz (ml f xs) i 0) else none := gs_ia sz sz' b _ k i (by rw [ml_len]; exact h)
theorem gs_iam_l {α : Type} (f : α → T) (sz sz' : Nat) (b : Bool) (xs : List α) (k : IntKind) (i : Nat) (h : OfNat.ofNat i < xs.length) : iaddrR sz S (gs b sz' (ml f xs)) (.sc (.int k (no_index (OfNat.ofNat i : Int)))) = if sz = sz' then some (.lptr sz (ml f xs) (OfNat.ofNat i) 0) else none := gs_iam f sz sz' b xs k i h
theorem gs_iau (sz sz' : Nat) (b : Bool) (xs : List Nat) (k : IntKind) (i : Nat) (h : i < xs.length) : iaddrR sz S (gs b sz' (ul xs)) (.sc (.int k (i : Int))) = if sz = sz' then some (.lptr sz (ul xs) i 0) else none := gs_ia sz sz' b _ k i (by rw [ul_len]; exact h)
theorem gs_iau_l (sz sz' : Nat) (b : Bool) (xs : List Nat) (k : IntKind) (i : Nat) (h : OfNat.ofNat i < xs.length) : iaddrR sz S (gs b sz' (ul xs)) (.sc (.int k (no_index (OfNat.ofNat i : Int)))) = if sz = sz' then some (.lptr sz (ul xs) (OfNat.ofNat i) 0) else none := gs_iau sz sz' b xs k i h
theorem lay_drop (S1 : Store) (k d : Nat) (o : Obj) (h : k ≤ L) : lay L S1 (upd S (k, d) o) = lay L S1 S := by
 funext l
 unfold lay upd
 by_cases hl : l = (k, d)
 ·subst hl; simp only [Nat.ble_eq_true_of_le h]; rfl
 ·simp only [if_neg hl]
theorem trunc_trunc' (m k : Nat) (h : m ≤ k) : trunc k (trunc m S) = trunc m S := by
 funext l; unfold trunc; by_cases hl : l.1 ≤ m
 ·have : l.1 ≤ k := by omega
  simp [hl, this]
 ·simp [hl]
theorem low_none (h : trunc 1 S = S) (k d : Nat) (hk : 1 < k) : S (k, d) = none := by
 rw [← h]; unfold trunc; rw [if_neg (by show ¬ k ≤ 1; omega)]
theorem low_trunc (h : trunc 1 S = S) (k : Nat) (hk : 1 ≤ k) : trunc k S = S := by
 rw [← h, trunc_trunc']; exact hk
theorem low_mask (h : trunc 1 S = S) (k : Nat) (hk : 1 < k) (kl : List Nat) (S0 : Store) : maskT k kl S0 S = S := by
 rw [← h]; exact maskT_trunc kl S0 1 hk
theorem kd_i64 : kd 9223372036854775808 = .i64 := by decide
theorem kd_u8 : kd 256 = .u8 := by decide
theorem kd_i32 : kd 2147483648 = .i32 := by decide
theorem kd_u32 : kd 4294967296 = .u32 := by decide
theorem kd_u64 : kd 18446744073709551616 = .u64 := by decide
theorem kd_u16 : kd 65536 = .u16 := by decide
theorem bstr_str (k m : Nat) : Value.string (bstr k m) = str (bytesN k m) := rfl
theorem T_bstr (k m : Nat) : T.sc (.string (bstr k m)) = .sc (str (bytesN k m)) := rfl
theorem ev_bstr (k m : Nat) : ev s (.const (.string (bstr k m))) = some (.sc (str (bytesN k m))) := by
 rfl
theorem bytesN_0 (m : Nat) : bytesN 0 m = [] := rfl
theorem bytesN_s (k m : Nat) : bytesN (k + 1) m = UInt8.ofNat (m % 256) :: bytesN k (m / 256) := rfl
end
attribute [simp] lay_drop gs_len gs_closed gs_snap gs_snapR gs_ren gs_locs gs_lv gs_cells gs_one gs_iam gs_iam_l gs_iau gs_iau_l gs_el gsz_ok gs_hl ml_len ml_get ml_app ml_take ml_drop ml_emp ml_nil ml_set ml_app1 kd_i64 kd_u8 kd_i32 kd_u32 kd_u64 kd_u16 T_bstr ev_bstr
theorem lenN : (∀ (α : Type) (l : List α) (i : Nat) (a : α), (l.set i a).length = l.length) ∧ (∀ (α : Type) (l m : List α), (l ++ m).length = l.length + m.length) ∧ (∀ (α : Type) (a : α) (l : List α), (a :: l).length = l.length + 1) ∧
  (∀ α : Type, ([] : List α).length = 0) ∧ (∀ (α β : Type) (f : α → β) (l : List α), (l.map f).length = l.length) ∧ (∀ (α : Type) (n : Nat) (a : α), (List.replicate n a).length = n) ∧ (∀ n : Nat, 0 + n = n) ∧ (∀ n : Nat, n.succ = n + 1) :=
 ⟨fun _ _ _ _ => List.length_set, fun _ _ _ => List.length_append, fun _ _ _ => List.length_cons, fun _ => List.length_nil, fun _ _ _ _ => List.length_map _, fun _ _ _ => List.length_replicate, Nat.zero_add, fun _ => rfl⟩
attribute [simp] KF.f KC.c KL.l Y.x O.t' oO KR.r V.t V.tL kd_i64 kd_u8 kd_i32 kd_u32 kd_u64 kd_u16
end Go.TM
