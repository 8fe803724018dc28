/- Tokens as trees. -/
import Derived.Test.YtgmclgajlofljaaGreatDoorQ8A
set_option linter.all false
namespace Go.TM.R8
open Go Go.TM Go.Proofs Go.TM.A8
structure Tk where
 k : Nat
 tx : List UInt8
 bn : Bool
 bits : List Nat
 sg : Bool
instance : Inhabited Tk := ⟨⟨0, [], true, [], false⟩⟩
def Tk.cs (t : Tk) : List T := [.sc (.int .u8 (t.k : Int)), .sc (str t.tx), gs t.bn 1 (ul t.bits), .sc (.bool t.sg)]
def Tk.t (t : Tk) : T := .agg t.cs
@[simp] theorem tk_closed (l : List Tk) : closedL (ml Tk.t l) = true := ml_closed Tk.t (fun t => by simp [Tk.t, Tk.cs]) l
def strT (s : List UInt8) : T := .sc (str s)
@[simp] theorem strT_closed (l : List (List UInt8)) : closedL (ml strT l) = true := ml_closed strT (fun x => rfl) l
end Go.TM.R8
