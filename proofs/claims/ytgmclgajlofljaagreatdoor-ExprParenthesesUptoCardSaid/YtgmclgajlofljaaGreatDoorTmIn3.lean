/- From a call's result to the call in memory. -/
import Derived.Test.YtgmclgajlofljaaGreatDoorTmFix
import Derived.Below
set_option linter.all false
namespace Go.TM
open Go Go.RowKit
theorem calls_in {P : Program} {γ : Glob} {E : Env} (hP : E.P = P) (hX : XOk P γ E.X) (hN : NGOk P) {f : FuncId} {args : List T} {v : Value} {S : Store} (h : callF E 0 f args emp = some (.sc v, S)) (w : World)
  (hg : Good γ ⟨emp, fun _ => False, fun _ => 0, fun b => b < w.heap.size, w⟩) {vs : List Value} (hr : RepL ⟨emp, fun _ => False, fun _ => 0, fun b => b < w.heap.size, w⟩ args vs) :
  Calls P f vs.toArray w fun e w' => e = .returned v ∧ Below w.heap.size w w' := by
 subst hP
 have hs := (callF_sound (γ := γ) hX hN 0 f args emp _ _ h).2
 have := hs ⟨emp, fun _ => False, fun _ => 0, fun b => b < w.heap.size, w⟩ vs rfl
  ⟨⟨fun l bt cs hD => hD.elim, fun l ro g sz e xs hD => hD.elim, fun l hD => hD.elim, fun l l' hD => hD.elim, fun b hb => hb, fun l hD => hD.elim⟩, fun l hD => hD.elim, fun l hl => absurd rfl hl⟩
  hg hr
 refine Calls.mono this fun e w' he => ?_
 cases e with
 | panicked ch => exact he.elim
 | outgrown => exact he.elim
 | returned u =>
  obtain ⟨c', rfl, hl⟩ := he
  have hu : u = v := by cases hl.rep; rfl
  refine ⟨by rw [hu], ⟨hl.fr.os, hl.fr.tape, hl.fr.output, hl.fr.size, fun k hk => hl.fr.blk k hk fun l hD => hD.elim⟩⟩
end Go.TM
