/- Functions of the library that are not run: what they come to, on trees. -/
import Derived.Test.YtgmclgajlofljaaGreatDoorTmAbb
import Derived.Lib.Repeat
import Derived.Lib.Index
import Derived.Lib.Bytealg
import Derived.Lib.ItoaNum
import Derived.Lib.Join
import Derived.Lib.IndexAny
import Derived.Lib.AppendIntMem
set_option linter.all false
namespace Go.TM
open Go
def XIB : List T → Option T
 | [.sc (.string s), .sc (.int .u8 c)] => some (.sc (.int .i64 (Lib.indexByte s.data.toList c.toNat.toUInt8)))
 | _ => none
def XIX : List T → Option T
 | [.sc (.string s), .sc (.string t)] => if s.size < 4294967281 then some (.sc (.int .i64 (Lib.index s.data.toList t.data.toList))) else none
 | _ => none
def XRE : List T → Option T
 | [.sc (.string s), .sc (.int .i64 n)] => if 0 ≤ n ∧ n ≤ 9223372036854775807 ∧ s.size * n.toNat ≤ 140737488355328 then some (.sc (.string ⟨(Lib.repeatL s.data.toList n.toNat).toArray⟩)) else none
 | _ => none
def XFI : List T → Option T
 | [.sc (.int .i64 n), .sc (.int .i64 b)] => if 0 ≤ n ∧ n < 100 ∧ b = 10 then some (.sc (.string ⟨(Lib.decDigits n.toNat).toArray⟩)) else none
 | _ => none
def XF2 : List T → Option T
 | [.sc (.int .i64 n), .sc (.int .i64 b)] => if 0 ≤ n ∧ n ≤ 9223372036854775807 ∧ b = 10 then some (.sc (.string ⟨(Lib.decDigits n.toNat).toArray⟩)) else none
 | _ => none
def XIT : List T → Option T
 | [.sc (.int .i64 n)] => if 0 ≤ n ∧ n ≤ 9223372036854775807 then some (.sc (.string ⟨(Lib.decDigits n.toNat).toArray⟩)) else none
 | _ => none
def strsT : List T → Option (List ByteArray)
 | [] => some []
 | .sc (.string s) :: r => (strsT r).map (s :: ·)
 | _ => none
def XJN : List T → Option T
 | [.sc (.slice none 0 0), .sc (.string sep)] => some (.sc (.string ⟨#[]⟩))
 | [.lst sz xs, .sc (.string sep)] => match strsT xs with
  | some ys => if sz = 1 ∧ ys.length ≤ 140737488355328 ∧ (Lib.join (ys.map (·.data.toList)) sep.data.toList).length ≤ 140737488355328 then some (.sc (.string ⟨(Lib.join (ys.map (·.data.toList)) sep.data.toList).toArray⟩)) else none
  | none => none
 | _ => none
def asc (s : ByteArray) : Bool := s.data.toList.all fun b => b.toNat < 128
def XCA : List T → Option T
 | [.sc (.string s), .sc (.string c)] => if s.size < 4294967281 ∧ c.size < 4294967281 ∧ asc s = true ∧ asc c = true then some (.sc (.bool (Lib.containsAny s.data.toList c.data.toList))) else none
 | _ => none
theorem asc_lt {s : ByteArray} (h : asc s = true) : ∀ (j : Nat) b, s.data.toList[j]? = some b → b.toNat < 128 := by
 intro j b hj
 unfold asc at h
 rw [List.all_eq_true] at h
 simpa using h b (List.mem_of_getElem? hj)
theorem repE_strs {c : Ctx} : ∀ {xs : List T} {ys : List ByteArray} {vs : List Value}, strsT xs = some ys → RepE c 1 xs vs → vs = ys.map Value.string ∧ xs.length = ys.length
 | [], ys, vs, h, hr => by
  cases hr
  simp only [strsT, Option.some.injEq] at h
  subst h
  exact ⟨rfl, rfl⟩
 | x :: xs, ys, vs, h, hr => by
  cases hr with
  | cons _ _ v _ ws h1 h2 h3 h4 =>
   unfold strsT at h
   split at h
   ·rename_i e; cases e
   ·rename_i s r e
    injection e with e1 e2
    subst e1; subst e2
    cases hs : strsT xs with
    | none => rw [hs] at h; cases h
    | some zs =>
     rw [hs] at h
     simp only [Option.map_some, Option.some.injEq] at h
     subst h
     obtain ⟨h5, h6⟩ := repE_strs hs h4
     cases h1
     rw [h5]
     exact ⟨rfl, by simp [h6]⟩
   ·cases h
end Go.TM
