/- Functions of the library that are not run: what they come to, for the fast evaluator and for the other. -/
import Derived.Test.YtgmclgajlofljaaGreatDoorTmKg
import Derived.Lib.Repeat
import Derived.Lib.Index
import Derived.Lib.Bytealg
import Derived.Lib.ItoaNum
set_option linter.all false
namespace Go.TM
open Go
def XIB : List T → Option T
 | [.sc (.string s), .sc (.int .u8 c)] => some (.sc (.int .i64 (Lib.indexByte s.data.toList c.toNat.toUInt8)))
 | _ => none
def XIX : List T → Option T
 | [.sc (.string s), .sc (.string t)] => if s.size < 4294967281 then some (.sc (.int .i64 (Lib.index s.data.toList t.data.toList))) else none
 | _ => none
def XRE : List T → Option T
 | [.sc (.string s), .sc (.int .i64 n)] => if 0 ≤ n ∧ n ≤ 9223372036854775807 ∧ s.size * n.toNat ≤ 140737488355328 then some (.sc (.string ⟨(Lib.repeatL s.data.toList n.toNat).toArray⟩)) else none
 | _ => none
def XFI : List T → Option T
 | [.sc (.int .i64 n), .sc (.int .i64 b)] => if 0 ≤ n ∧ n < 100 ∧ b = 10 then some (.sc (.string ⟨(Lib.decDigits n.toNat).toArray⟩)) else none
 | _ => none
noncomputable section
def fIB (len n b : Nat) : Option Nat := @Nat.rec (fun _ => Nat → Nat → Option Nat) (fun _ _ => none) (fun _ ih n b => @Bool.rec (fun _ => Option Nat) (@Option.rec Nat (fun _ => Option Nat) none (fun j => some (Nat.succ j)) (ih (Nat.div n 256) b)) (some 0) (Nat.beq (Nat.mod n 256) b)) len n b
def fIX (len n l m : Nat) : Option Nat := @Nat.rec (fun _ => Nat → Nat → Nat → Option Nat) (fun _ l _ => @Bool.rec (fun _ => Option Nat) none (some 0) (Nat.beq l 0)) (fun k ih n l m =>
 @Bool.rec (fun _ => Option Nat) (@Option.rec Nat (fun _ => Option Nat) none (fun j => some (Nat.succ j)) (ih (Nat.div n 256) l m)) (some 0) (@Bool.rec (fun _ => Bool) false (Nat.beq (Nat.mod n (Nat.pow 256 l)) (Nat.mod m (Nat.pow 256 l))) (Nat.ble l (Nat.succ k)))) len n l m
def oV (o : Option Nat) : V := @Option.rec Nat (fun _ => V) (.m 9223372036854775808 0) (fun j => .p 9223372036854775808 j) o
def kIB : List V → Option V
 | [.s l n, .p c b] => @Bool.rec (fun _ => Option V) none (@Bool.rec (fun _ => Option V) none (some (oV (fIB l n b))) (Nat.blt b 256)) (Nat.beq c 256)
 | _ => none
def kIX : List V → Option V
 | [.s l n, .s l' m] => @Bool.rec (fun _ => Option V) none (some (oV (fIX l n l' m))) (Nat.blt l 4294967281)
 | _ => none
def kRE : List V → Option V
 | [.s l n, .p c k] => @Bool.rec (fun _ => Option V) none (@Bool.rec (fun _ => Option V) none (@Bool.rec (fun _ => Option V) none
   (some (.s (Nat.mul l k) (Nat.mul (Nat.mod n (Nat.pow 256 l)) (Nat.div (Nat.sub (Nat.pow 256 (Nat.mul l k)) 1) (Nat.sub (Nat.pow 256 l) 1))))) (Nat.ble (Nat.mul l k) 1000000)) (Nat.blt 0 l)) (Nat.beq c 9223372036854775808)
 | _ => none
def kFI : List V → Option V
 | [.p c n, .p c' b] => @Bool.rec (fun _ => Option V) none (@Bool.rec (fun _ => Option V) none (@Bool.rec (fun _ => Option V) none
   (@Bool.rec (fun _ => Option V) (@Bool.rec (fun _ => Option V) none (some (.s 2 (Nat.add (Nat.add 48 (Nat.div n 10)) (Nat.mul 256 (Nat.add 48 (Nat.mod n 10)))))) (Nat.blt n 100)) (some (.s 1 (Nat.add 48 n))) (Nat.blt n 10)) (Nat.beq b 10)) (Nat.beq c' 9223372036854775808)) (Nat.beq c 9223372036854775808)
 | _ => none
end
theorem oV_t (o : Option Nat) : (oV o).t = .sc (.int .i64 (match o with | some j => (j : Int) | none => -1)) := by
 cases o with
 | none => show V.t (.m 9223372036854775808 0) = _; simp only [V.t]; rfl
 | some j => show V.t (.p 9223372036854775808 j) = _; simp only [V.t]; rfl
theorem fIB_s (k n b : Nat) : fIB (k + 1) n b = if n % 256 = b then some 0 else (fIB k (n / 256) b).map (· + 1) := by
 show (@Bool.rec (fun _ => Option Nat) (@Option.rec Nat (fun _ => Option Nat) none (fun j => some (Nat.succ j)) (fIB k (n / 256) b)) (some 0) (Nat.beq (n % 256) b)) = _
 rw [br_if]; simp only [nbeq]; cases fIB k (n / 256) b <;> rfl
theorem fIB_t (b : Nat) (hb : b < 256) : ∀ (l n : Nat), Lib.indexByte (bytesN l n) (UInt8.ofNat b) = match fIB l n b with | some j => (j : Int) | none => -1
 | 0, n => rfl
 | l + 1, n => by
  rw [fIB_s]
  simp only [bytesN, Lib.indexByte]
  have h1 : (UInt8.ofNat (n % 256) == UInt8.ofNat b) = decide (n % 256 = b) := by
   by_cases h : n % 256 = b
   ·rw [h]; simp
   ·have : ¬ UInt8.ofNat (n % 256) = UInt8.ofNat b := by
     intro e
     have := congrArg UInt8.toNat e
     simp only [UInt8.toNat_ofNat'] at this
     omega
    simp [h, this]
  rw [h1, fIB_t b hb l (n / 256)]
  by_cases h : n % 256 = b
  ·simp [h]
  ·simp only [h, decide_false, if_false]
   cases fIB l (n / 256) b with
   | none => simp
   | some j =>
    have : ¬ (j : Int) = -1 := by omega
    simp [this]
theorem prefix_t (l m k n : Nat) : (bytesN l m).isPrefixOf (bytesN k n) = (decide (l ≤ k) && decide (n % 256 ^ l = m % 256 ^ l)) := by
 rw [Bool.eq_iff_iff, List.isPrefixOf_iff_prefix, Bool.and_eq_true, decide_eq_true_eq, decide_eq_true_eq]
 constructor
 ·intro h
  have hl : l ≤ k := by simpa [bytesN_len] using h.length_le
  refine ⟨hl, ?_⟩
  have := List.prefix_iff_eq_take.1 h
  rw [bytesN_len, bytesN_take, Nat.min_eq_left hl] at this
  exact (bytesN_inj l this).symm
 ·rintro ⟨hl, h⟩
  rw [List.prefix_iff_eq_take, bytesN_len, bytesN_take, Nat.min_eq_left hl, ← bytesN_mod l m, ← h, bytesN_mod]
theorem fIX_s (k n l m : Nat) : fIX (k + 1) n l m = if l ≤ k + 1 ∧ n % 256 ^ l = m % 256 ^ l then some 0 else (fIX k (n / 256) l m).map (· + 1) := by
 show (@Bool.rec (fun _ => Option Nat) (@Option.rec Nat (fun _ => Option Nat) none (fun j => some (Nat.succ j)) (fIX k (n / 256) l m)) (some 0) (@Bool.rec (fun _ => Bool) false (Nat.beq (n % 256 ^ l) (m % 256 ^ l)) (Nat.ble l (k + 1)))) = _
 rw [br_if, br_and]; simp only [Bool.and_eq_true, nbeq, nble]; cases fIX k (n / 256) l m <;> rfl
theorem fIX_t (l m : Nat) : ∀ (k n : Nat), Lib.index (bytesN k n) (bytesN l m) = match fIX k n l m with | some j => (j : Int) | none => -1
 | 0, n => by
  show (if (bytesN l m).isEmpty then (0 : Int) else -1) = match (@Bool.rec (fun _ => Option Nat) none (some 0) (Nat.beq l 0)) with | some j => (j : Int) | none => -1
  cases l <;> rfl
 | k + 1, n => by
  rw [fIX_s]
  have hp := prefix_t l m (k + 1) n
  simp only [bytesN] at hp ⊢
  rw [Lib.index, hp, fIX_t l m k (n / 256)]
  by_cases h : l ≤ k + 1 ∧ n % 256 ^ l = m % 256 ^ l
  ·simp [h]
  ·have : (decide (l ≤ k + 1) && decide (n % 256 ^ l = m % 256 ^ l)) = false := by
    rw [Bool.and_eq_false_iff, decide_eq_false_iff_not, decide_eq_false_iff_not]
    by_cases h1 : l ≤ k + 1
    ·exact .inr fun h2 => h ⟨h1, h2⟩
    ·exact .inl h1
   rw [this, if_neg h]
   cases fIX k (n / 256) l m with
   | none => simp
   | some j =>
    have : ¬ (j : Int) = -1 := by omega
    simp [this]
def geo (x : Nat) : Nat → Nat
 | 0 => 0
 | k + 1 => 1 + x * geo x k
theorem bstr_list (l n : Nat) : (bstr l n).data.toList = bytesN l n := rfl
theorem bstr_mk {l n : Nat} {bs : List UInt8} (h : bs = bytesN l n) : (⟨bs.toArray⟩ : ByteArray) = bstr l n := by rw [h]; rfl
theorem brV_some {c : Bool} {x : Option V} {v : V} : (@Bool.rec (fun _ => Option V) none x c = some v) ↔ c = true ∧ x = some v := br_some
theorem kIB_t {args : List V} {v : V} (h : kIB args = some v) : XIB (V.tL args) = some v.t := by
 unfold kIB at h
 split at h
 ·rename_i l n c b
  simp only [brV_some, nbeq, nblt, Option.some.injEq] at h
  obtain ⟨rfl, hb, rfl⟩ := h
  simp only [V.tL, V.t]
  rw [show kd 256 = .u8 from rfl]
  simp only [XIB, bstr_list, oV_t, Int.toNat_natCast, Option.some.injEq, T.sc.injEq, Value.int.injEq, true_and]
  exact fIB_t b hb l n
 ·cases h
theorem kIX_t {args : List V} {v : V} (h : kIX args = some v) : XIX (V.tL args) = some v.t := by
 unfold kIX at h
 split at h
 ·rename_i l n l' m
  simp only [brV_some, nblt, Option.some.injEq] at h
  obtain ⟨hl, rfl⟩ := h
  simp only [V.tL, V.t, XIX, bstr_size, hl, if_true, bstr_list, oV_t, Option.some.injEq, T.sc.injEq, Value.int.injEq, true_and]
  exact fIX_t l' m l n
 ·cases h
abbrev Tab := List (Nat × Nat × Nat)
def lkT : Tab → Int → Option (Nat × Nat)
 | [], _ => none
 | (a, p) :: r, n => if n = (a : Int) then some p else lkT r n
def XTB (tab : Tab) : List T → Option T
 | [.sc (.int .u8 n)] => match lkT tab n with
  | some p => some (.sc (.string (bstr p.1 p.2)))
  | none => none
 | _ => none
noncomputable def lkN (tab : Tab) (n : Nat) : Option V := @List.rec (Nat × Nat × Nat) (fun _ => Nat → Option V) (fun _ => none) (fun e _ ih n => @Bool.rec (fun _ => Option V) (ih n) (some (.s e.2.1 e.2.2)) (Nat.beq n e.1)) tab n
noncomputable def kTB (tab : Tab) : List V → Option V
 | [.p c n] => @Bool.rec (fun _ => Option V) none (lkN tab n) (Nat.beq c 256)
 | _ => none
end Go.TM
