/- The chapter's examples hold: the run of the whole call, in the kernel. -/
import Derived.Test.YtgmclgajlofljaaGreatDoorA8X
set_option linter.all false
namespace Go.TM.A8
open Go Go.TM Go.RowKit
set_option maxRecDepth 1000000
noncomputable def isT (o : Option An) : Bool := match o with
 | some (.b true, _) => true
 | _ => false
theorem isT_eq {o : Option An} (h : isT o = true) : ∃ S, o = some (.b true, S) := by
 unfold isT at h
 split at h
 ·exact ⟨_, rfl⟩
 ·cases h
theorem runs : isT (runK K0 1000 11 []) = true := by kernel_rfl
theorem awake_calls (w : World) (hm : ∃ m, w.cell? ⟨0, 0, none⟩ = some (.int .i64 m)) (ht : Lib.TabIs Go.Proofs.Tryz.prog w "internal/strconv.uint64pow10" .u64 Lib.pow10Tab) : Calls Go.Proofs.Tryz.prog 11 #[] w fun e w' => e = .returned (.bool true) ∧ Below w.heap.size w w' := by
 obtain ⟨S, h⟩ := isT_eq runs
 have h2 := runK_t kok h
 have h3 : callF E 0 11 [] emp = some (.sc (.bool true), abS S) := by simpa only [V.tL, V.t] using h2
 exact calls_of h3 w hm ht
end Go.TM.A8
