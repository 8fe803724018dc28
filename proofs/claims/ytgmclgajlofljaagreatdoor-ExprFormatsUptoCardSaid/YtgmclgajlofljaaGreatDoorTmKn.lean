/- FormatInt at base 10, whatever the number. -/
import Derived.Test.YtgmclgajlofljaaGreatDoorTmKx
import Derived.Lib.AppendIntMem
set_option linter.all false
namespace Go.TM
open Go
def XF2 : List T → Option T
 | [.sc (.int .i64 n), .sc (.int .i64 b)] => if 0 ≤ n ∧ n ≤ 9223372036854775807 ∧ b = 10 then some (.sc (.string ⟨(Lib.decDigits n.toNat).toArray⟩)) else none
 | _ => none
noncomputable def dgK (fuel : Nat) : Nat → (Nat → Nat → Option V) → Option V := @Nat.rec (fun _ => Nat → (Nat → Nat → Option V) → Option V) (fun _ _ => none)
 (fun _ ih n k => @Bool.rec (fun _ => Option V) (ih (Nat.div n 10) fun l m => k (Nat.succ l) (Nat.add m (Nat.mul (Nat.pow 256 l) (Nat.add 48 (Nat.mod n 10))))) (k 1 (Nat.add 48 n)) (Nat.blt n 10)) fuel
noncomputable def kF2 : List V → Option V
 | [.p c n, .p c' b] => @Bool.rec (fun _ => Option V) none (@Bool.rec (fun _ => Option V) none (@Bool.rec (fun _ => Option V) none (@Bool.rec (fun _ => Option V) none (dgK 30 n fun l m => some (.s l m)) (Nat.ble n 9223372036854775807)) (Nat.beq b 10)) (Nat.beq c' 9223372036854775808)) (Nat.beq c 9223372036854775808)
 | _ => none
theorem bytesN_snoc (c : Nat) (hc : c < 256) : ∀ (l m : Nat), m < 256 ^ l → bytesN (l + 1) (m + 256 ^ l * c) = bytesN l m ++ [UInt8.ofNat c]
 | 0, m, h => by
  have : m = 0 := by simpa using h
  subst this
  simp [bytesN, Nat.mod_eq_of_lt hc]
 | l + 1, m, h => by
  have e : m + 256 ^ (l + 1) * c = m + 256 * (256 ^ l * c) := by rw [Nat.pow_succ, Nat.mul_comm (256 ^ l) 256, Nat.mul_assoc]
  have h1 : (m + 256 ^ (l + 1) * c) % 256 = m % 256 := by rw [e]; omega
  have h2 : (m + 256 ^ (l + 1) * c) / 256 = m / 256 + 256 ^ l * c := by rw [e]; omega
  have h3 : m / 256 < 256 ^ l := by
   rw [Nat.pow_succ] at h
   exact Nat.div_lt_of_lt_mul (by rw [Nat.mul_comm]; exact h)
  rw [show l + 1 + 1 = (l + 1) + 1 from rfl, bytesN, h1, h2, bytesN_snoc c hc l (m / 256) h3, bytesN]
  rfl
theorem dgK_t : ∀ (fuel n : Nat) {k : Nat → Nat → Option V} {v : V}, dgK fuel n k = some v → ∃ l m, k l m = some v ∧ bytesN l m = Lib.decDigits n ∧ m < 256 ^ l
 | 0, n, k, v, h => by cases h
 | fuel + 1, n, k, v, h => by
  have h : (@Bool.rec (fun _ => Option V) (dgK fuel (n / 10) fun l m => k (l + 1) (m + 256 ^ l * (48 + n % 10))) (k 1 (48 + n)) (Nat.blt n 10)) = some v := h
  rw [br_if] at h
  split at h
  ·rename_i hn
   rw [nblt] at hn
   refine ⟨1, 48 + n, h, ?_, by simp; omega⟩
   rw [Lib.decDigits_one hn]
   simp only [bytesN]
   rw [Nat.mod_eq_of_lt (by omega)]
  ·rename_i hn
   rw [nblt] at hn
   obtain ⟨l, m, h1, h2, h3⟩ := dgK_t fuel (n / 10) h
   refine ⟨_, _, h1, ?_, ?_⟩
   ·rw [bytesN_snoc _ (by omega) l m h3, h2]
    conv => rhs; rw [Lib.decDigits]
    rw [dif_neg hn]
   ·rw [Nat.pow_succ]
    have : 256 ^ l * (48 + n % 10) ≤ 256 ^ l * 255 := Nat.mul_le_mul_left _ (by omega)
    omega
theorem kF2_t {args : List V} {v : V} (h : kF2 args = some v) : XF2 (V.tL args) = some v.t := by
 unfold kF2 at h
 split at h
 ·rename_i c n c' b
  simp only [brV_some, nbeq, nble] at h
  obtain ⟨rfl, rfl, rfl, hn, h⟩ := h
  obtain ⟨l, m, h1, h2, h3⟩ := dgK_t 30 n h
  simp only [Option.some.injEq] at h1
  subst h1
  simp only [V.tL, V.t]
  rw [show kd 9223372036854775808 = .i64 from rfl]
  simp only [XF2]
  rw [if_pos ⟨by omega, by omega, rfl⟩, Int.toNat_natCast, bstr_mk (l := l) (n := m) h2.symm]
 ·cases h
end Go.TM
