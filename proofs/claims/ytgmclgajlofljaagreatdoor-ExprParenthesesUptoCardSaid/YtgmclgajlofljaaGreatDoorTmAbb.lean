/- Short names for light code; rules for running it by rewriting. -/
import Derived.Test.YtgmclgajlofljaaGreatDoorTmLC
import Derived.KernelRfl
set_option linter.all false
namespace Go.TM
open Go
abbrev t (n : Nat) : Operand := .tmp n
abbrev ci (k : IntKind) (n : Int) : Operand := .const (.int k n)
abbrev cb (b : Bool) : Operand := .const (.bool b)
abbrev cs (a : Array UInt8) : Operand := .const (.string ⟨a⟩)
abbrev o (d : Nat) (x : X) : LOp := ⟨some d, none, x⟩
abbrev og (d j : Nat) (w : Bool) (x : X) : LOp := ⟨some d, some (j, w), x⟩
abbrev on (x : X) : LOp := ⟨none, none, x⟩
abbrev ong (j : Nat) (w : Bool) (x : X) : LOp := ⟨none, some (j, w), x⟩
def drawsOf : Code → List (Array Oper)
 | .region _ ops true => [ops]
 | .seq a b => drawsOf a ++ drawsOf b
 | .cond _ a b => drawsOf a ++ drawsOf b
 | .block _ c | .loop c | .scope c => drawsOf c
 | _ => []
def drawN (fn : Func) (k : Nat) : Array Oper := ((fn.body.map drawsOf).getD []).getD k #[]
def swC (a b : Nat) : List (Nat × Array UInt8) → LC
 | [] => .skip
 | [(d, w)] => .ops [o d (.bin .eql (t a) (cs w)), o b (.mv (t d))]
 | (d, w) :: p :: r => .seq (.ops [o d (.bin .eql (t a) (cs w)), o b (.mv (t d))]) (.cond (t b) .skip (swC a b (p :: r)))
theorem get_nil (d : Nat) : get [] d = .undef := rfl
theorem maskS_emp (L : Nat) (kl : List Nat) : maskS L kl emp = emp := by
 funext l
 simp only [maskS, emp]
 split
 ·split <;> rfl
 ·rfl
theorem setRo_emp (ls : List Loc) : setRo emp ls = emp := by funext l; simp [setRo, emp]
theorem trunc_emp (L : Nat) : trunc L emp = emp := by funext l; simp [trunc, emp]
theorem addS_nil (n m k : Nat) (S1 S : Store) : addS n [] m k S1 S = S := by
 funext l; simp [addS, srcOf_nil]
theorem ev_t (s : Slots) (n : Nat) : ev s (t n) = some (get s n) := rfl
theorem ev_ci (s : Slots) (k : IntKind) (n : Int) : ev s (ci k n) = some (.sc (.int k n)) := rfl
theorem ev_cb (s : Slots) (b : Bool) : ev s (cb b) = some (.sc (.bool b)) := rfl
theorem ev_cs (s : Slots) (a : Array UInt8) : ev s (cs a) = some (.sc (.string ⟨a⟩)) := rfl
theorem ev_func (s : Slots) (f : FuncId) : ev s (.func f) = some (.sc (.func (.func f) #[] #[])) := rfl
theorem ev_nil (s : Slots) : ev s (.const (.slice none 0 0)) = some (.sc (.slice none 0 0)) := rfl
end Go.TM
