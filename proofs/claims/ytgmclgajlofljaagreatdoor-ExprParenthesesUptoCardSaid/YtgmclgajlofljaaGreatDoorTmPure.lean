/- Operations on plain values, by what they come to. -/
import Derived.Test.YtgmclgajlofljaaGreatDoorTmFix
set_option linter.all false
namespace Go.TM
open Go
theorem pureRun_pure {α : Type} (P : Program) (a : α) : pureRun P (pure a) = some a := rfl
theorem pureRun_bind {α β : Type} (P : Program) (f : α → Sem β) : ∀ (m : Sem α), pureRun P (m >>= f) = (pureRun P m).bind fun a => pureRun P (f a)
 | .pure a => rfl
 | .program k => pureRun_bind P f (k P)
 | .mark _ k => pureRun_bind P f k
 | .load .. => rfl
 | .store .. => rfl
 | .new .. => rfl
 | .shape .. => rfl
 | .freeze .. => rfl
 | .frozen .. => rfl
 | .getObj .. => rfl
 | .setObj .. => rfl
 | .choose .. => rfl
 | .sys .. => rfl
 | .halt .. => rfl
theorem pureRun_underlying {P : Program} {t : TypeId} {d : TypeDesc} (h : P.underlying t = some d) : pureRun P (underlying t) = some d := by
 show pureRun P (match P.underlying t with | some d => pure d | none => stuck "no such type") = _
 rw [h]; rfl
theorem ruleA_intro {P : Program} {o : Oper} {s : Slots} {v : Value} (h1 : plainOp o.op = true) (h2 : ∀ x ∈ o.op.operands, isScO s x = true) (h3 : pureRun P (execOp (scV s) o) = some (.value v)) (h4 : isSc v = true) :
  ruleA P o s = some (.sc v) := by
 unfold ruleA
 have : o.op.operands.all (isScO s) = true := Array.all_eq_true_iff_forall_mem.2 h2
 simp [h1, this, h3, h4]
theorem isScO_of {s : Slots} {x : Operand} {v : Value} (h : ev s x = some (.sc v)) : isScO s x = true ∧ scV s x = v := by
 simp [isScO, scV, h]
def binS (op : BinOp) : Value → Value → Option Value
 | .int k a, .int k' b => match op with
  | .shl => if b < 0 then none else some (.int k (k.wrap (a * 2 ^ min b.toNat k.bits)))
  | .shr => if b < 0 then none else some (.int k (a.fdiv (2 ^ min b.toNat k.bits)))
  | .add => if k = k' then some (.int k (k.wrap (a + b))) else none
  | .sub => if k = k' then some (.int k (k.wrap (a - b))) else none
  | .mul => if k = k' then some (.int k (k.wrap (a * b))) else none
  | .quo => if k = k' ∧ b ≠ 0 then some (.int k (k.wrap (a.tdiv b))) else none
  | .rem => if k = k' ∧ b ≠ 0 then some (.int k (a.tmod b)) else none
  | .and => if k = k' then some (.int k (k.wrap (BitVec.ofInt k.bits a &&& BitVec.ofInt k.bits b).toNat)) else none
  | .or => if k = k' then some (.int k (k.wrap (BitVec.ofInt k.bits a ||| BitVec.ofInt k.bits b).toNat)) else none
  | .xor => if k = k' then some (.int k (k.wrap (BitVec.ofInt k.bits a ^^^ BitVec.ofInt k.bits b).toNat)) else none
  | .andNot => if k = k' then some (.int k (k.wrap (BitVec.ofInt k.bits a &&& ~~~BitVec.ofInt k.bits b).toNat)) else none
  | .eql => if k = k' then some (.bool (a == b)) else none
  | .neq => if k = k' then some (.bool (a != b)) else none
  | .lss => if k = k' then some (.bool (decide (a < b))) else none
  | .leq => if k = k' then some (.bool (decide (a ≤ b))) else none
  | .gtr => if k = k' then some (.bool (decide (b < a))) else none
  | .geq => if k = k' then some (.bool (decide (b ≤ a))) else none
 | .string a, .string b => match op with
  | .add => if ((a.size + b.size : Nat) : Int) > IntKind.i64.max then none else some (.string (a ++ b))
  | .eql => some (.bool (a.toList == b.toList))
  | .neq => some (.bool !(a.toList == b.toList))
  | _ => none
 | _, _ => none
theorem guard_pure {P : Program} {op : BinOp} {t : TypeId} {x y : Operand} {a b : Value} (h : (∃ k i, a = .int k i) ∨ (∃ s, a = .string s) ∨ ∃ q, a = .bool q) : pureRun P (eqGuard op t x y a b) = some () := by
 unfold eqGuard
 cases op <;> rcases h with ⟨k, i, rfl⟩ | ⟨s, rfl⟩ | ⟨q, rfl⟩ <;> rfl
theorem binS_run {P : Program} {op : BinOp} {t : TypeId} {a b v : Value} (h : binS op a b = some v) : pureRun P (binOp op t a b) = some v := by
 unfold binS at h
 split at h
 ·rename_i k a k' b
  cases op <;> simp only at h <;> split at h <;> try cases h
  all_goals rename_i hc
  all_goals first
   | (obtain ⟨rfl, hb⟩ := hc; simp only [binOp, ne_eq, not_true_eq_false, if_false, Op.intDiv, if_neg hb]; rfl)
   | (subst hc; simp only [binOp, ne_eq, not_true_eq_false, if_false]; rfl)
   | (simp only [binOp, Op.shift, if_neg hc]; rfl)
 ·rename_i a b
  cases op <;> simp only at h <;> try cases h
  ·split at h
   ·cases h
   ·rename_i hc
    simp only [Option.some.injEq] at h
    subst h
    simp only [binOp, Op.stringOp]
    rw [if_neg hc]
    rfl
  ·rfl
  ·rfl
 ·cases h
end Go.TM
