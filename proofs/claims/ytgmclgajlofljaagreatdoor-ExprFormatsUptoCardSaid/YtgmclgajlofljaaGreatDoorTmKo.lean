/- Itoa, Join, ContainsAny: what they come to, on trees. -/
import Derived.Test.YtgmclgajlofljaaGreatDoorTmKn
import Derived.Lib.Join
import Derived.Lib.IndexAny
set_option linter.all false
namespace Go.TM
open Go
def XIT : List T → Option T
 | [.sc (.int .i64 n)] => if 0 ≤ n ∧ n ≤ 9223372036854775807 then some (.sc (.string ⟨(Lib.decDigits n.toNat).toArray⟩)) else none
 | _ => none
def strsT : List T → Option (List ByteArray)
 | [] => some []
 | .sc (.string s) :: r => (strsT r).map (s :: ·)
 | _ => none
def XJN : List T → Option T
 | [.sc (.slice none 0 0), .sc (.string sep)] => some (.sc (.string ⟨#[]⟩))
 | [.lst sz xs, .sc (.string sep)] => match strsT xs with
  | some ys => if sz = 1 ∧ ys.length ≤ 140737488355328 ∧ (Lib.join (ys.map (·.data.toList)) sep.data.toList).length ≤ 140737488355328 then some (.sc (.string ⟨(Lib.join (ys.map (·.data.toList)) sep.data.toList).toArray⟩)) else none
  | none => none
 | _ => none
def asc (s : ByteArray) : Bool := s.data.toList.all fun b => b.toNat < 128
def XCA : List T → Option T
 | [.sc (.string s), .sc (.string c)] => if s.size < 4294967281 ∧ c.size < 4294967281 ∧ asc s = true ∧ asc c = true then some (.sc (.bool (Lib.containsAny s.data.toList c.data.toList))) else none
 | _ => none
theorem asc_lt {s : ByteArray} (h : asc s = true) : ∀ (j : Nat) b, s.data.toList[j]? = some b → b.toNat < 128 := by
 intro j b hj
 unfold asc at h
 rw [List.all_eq_true] at h
 simpa using h b (List.mem_of_getElem? hj)
end Go.TM
