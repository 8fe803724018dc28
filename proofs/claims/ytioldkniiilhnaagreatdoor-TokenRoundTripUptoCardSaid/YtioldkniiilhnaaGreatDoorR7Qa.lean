/- Token: the reference's signs; awake. -/
import Derived.Test.YtioldkniiilhnaaGreatDoorR7A
set_option linter.all false
namespace Go.TM.R7
open Go Go.TM Go.Proofs Go.TM.A7
attribute [-simp] Int.natCast_add Int.natCast_mul List.drop_one
def strT (s : List UInt8) : T := .sc (str s)
def puncts : List (List UInt8) := [[60, 60, 60], [62, 62, 62], [61, 61, 61], [33, 61, 61], [60, 60], [62, 62], [60, 61], [62, 61], [61, 61], [33, 61], [38, 38], [124, 124], [42, 42], [126, 38], [126, 124], [126, 94], [43, 58],
 [43], [45], [42], [47], [37], [60], [62], [33], [126], [38], [124], [94], [63], [58], [59], [44], [46], [40], [41], [91], [93], [123], [125], [35], [64], [61]]
@[simp] theorem strT_closed (l : List (List UInt8)) : closedL (ml strT l) = true := ml_closed strT (fun x => rfl) l
@[simp] theorem c_awake : callF E 0 f_law07_awake [] emp = some (.sc (.bool true), emp) := callF_X (g := XAw) rfl rfl rfl rfl rfl
end Go.TM.R7
