/- From a call's contract to the row's form: where the row lists variables, and the library reads one of its own. -/
import Derived.LaidMore
import Derived.OpenShut
import Derived.HandedShaped
import Derived.Stop.Joined
set_option linter.all false
namespace Go.TM
open Go
variable {H : Type} {enc : TypeId × Value → H}
end Go.TM
