/- What the functions of the library that are not run come to. -/
import Derived.Test.YtgmclgajlofljaaGreatDoorTmXo
import Derived.Test.YtgmclgajlofljaaGreatDoorShelf2
import Derived.Test.YtgmclgajlofljaaGreatDoorProg
import Derived.KernelRfl
set_option linter.all false
namespace Go.TM.A8
open Go Go.TM Go.Proofs Go.RowKit
set_option maxRecDepth 1000000
theorem gT : Tryz.prog.globalNamed "internal/strconv.uint64pow10" = some 1 := by kernel_rfl
def gam : Glob := ⟨fun w => (∃ m, w.cell? ⟨0, 0, none⟩ = some (.int .i64 m)) ∧ Lib.TabIs Tryz.prog w "internal/strconv.uint64pow10" .u64 Lib.pow10Tab, fun b => b = 0 ∨ b = 1, fun w w' ⟨⟨m, h⟩, ht⟩ k => ⟨⟨m, by rw [← h]; simp only [World.cell?, k 0 (.inl rfl)]⟩, by
 unfold Lib.TabIs World.var? at ht ⊢
 rw [gT] at ht ⊢
 simp only [Option.bind_some] at ht ⊢
 rw [k 1 (.inr rfl)]; exact ht⟩⟩
theorem tab_lt {w : World} (h : Lib.TabIs Tryz.prog w "internal/strconv.uint64pow10" .u64 Lib.pow10Tab) : 1 < w.heap.size := by
 rcases Nat.lt_or_ge 1 w.heap.size with h1 | h1
 ·exact h1
 ·unfold Lib.TabIs World.var? at h
  rw [gT] at h
  simp [Array.getElem?_eq_none h1] at h
theorem rep_sc {c : Ctx} {v u : Value} (h : Rep c (.sc v) u) : u = v := by cases h; rfl
theorem repL_one {c : Ctx} {a : Value} {vs : List Value} (h : RepL c [.sc a] vs) : vs = [a] := by
 cases h with
 | cons _ v _ ws h1 h2 =>
  cases h2
  rw [rep_sc h1]
theorem repL_two {c : Ctx} {a b : Value} {vs : List Value} (h : RepL c [.sc a, .sc b] vs) : vs = [a, b] := by
 cases h with
 | cons _ v _ ws h1 h2 =>
  cases h2 with
  | cons _ v2 _ ws2 h3 h4 =>
   cases h4
   rw [rep_sc h1, rep_sc h3]
theorem post_same {w : World} {v : Value} (hv : isSc v = true) {e : Ending} {w' : World} (h : e = .returned v ∧ w' = w) : XPost w (.sc v) e w' := by
 obtain ⟨rfl, rfl⟩ := h
 exact ⟨fun c => .sc v hv, ⟨rfl, rfl, rfl⟩, Nat.le_refl _, fun _ _ => rfl⟩
theorem post_below {w : World} {v : Value} (hv : isSc v = true) {e : Ending} {w' : World} (h : e = .returned v ∧ Below w.heap.size w w') : XPost w (.sc v) e w' := by
 obtain ⟨rfl, h⟩ := h
 exact ⟨fun c => .sc v hv, ⟨h.os, h.tape, h.output⟩, h.size, h.block⟩
theorem x_ib : Entered Tryz.prog 146 ∧ ∀ args r, XIB args = some r → closed r = true → hasLst r = false → ∀ L c vs, Inv L c → Good gam c → RepL c args vs → Calls Tryz.prog 146 vs.toArray c.w (XPost c.w r) := by
 refine ⟨⟨Tryz.f146, Tryz.func146, by kernel_rfl, by kernel_rfl⟩, fun args r h _ _ L c vs _ _ hr => ?_⟩
 unfold XIB at h
 split at h
 ·simp only [Option.some.injEq] at h
  subst h
  rw [repL_two hr]
  exact (Tryz.strings_IndexByte _ _ _).mono fun e w' h => post_same rfl h
 ·cases h
theorem x_ix : Entered Tryz.prog 147 ∧ ∀ args r, XIX args = some r → closed r = true → hasLst r = false → ∀ L c vs, Inv L c → Good gam c → RepL c args vs → Calls Tryz.prog 147 vs.toArray c.w (XPost c.w r) := by
 refine ⟨⟨Tryz.f147, Tryz.func147, by kernel_rfl, by kernel_rfl⟩, fun args r h _ _ L c vs _ hg hr => ?_⟩
 unfold XIX at h
 split at h
 ·split at h
  ·rename_i hs
   simp only [Option.some.injEq] at h
   subst h
   rw [repL_two hr]
   obtain ⟨⟨⟨m, hm⟩, _⟩, _⟩ := hg
   exact (Tryz.strings_Index _ _ m _ hs hm).mono fun e w' h => post_same rfl h
  ·cases h
 ·cases h
theorem x_fi : Entered Tryz.prog 132 ∧ ∀ args r, XF2 args = some r → closed r = true → hasLst r = false → ∀ L c vs, Inv L c → Good gam c → RepL c args vs → Calls Tryz.prog 132 vs.toArray c.w (XPost c.w r) := by
 refine ⟨⟨Tryz.f132, Tryz.func132, by kernel_rfl, by kernel_rfl⟩, fun args r h _ _ L c vs _ hg hr => ?_⟩
 unfold XF2 at h
 split at h
 ·split at h
  ·rename_i k b hs
   simp only [Option.some.injEq] at h
   subst h
   rw [repL_two hr]
   obtain ⟨h0, h1, rfl⟩ := hs
   refine (Tryz.strconv_FormatInt_10 k (by omega) h1 c.w hg.1.2).mono fun e w' h => ?_
   obtain ⟨rfl, q, os, rfl⟩ := h
   refine post_below rfl ⟨?_, Lib.below_grow _ c.w (Nat.le_refl _) q os⟩
   unfold Lib.itoa
   rw [if_neg (by omega)]
  ·cases h
 ·cases h
theorem ngok : NGOk Tryz.prog := by
 intro f fn h
 have all : (Tryz.prog.funcs.toList.all fun fn => !(fn.name == "runtime.NumGoroutine")) = true := by kernel_rfl
 rw [List.all_eq_true] at all
 have := all fn (by rw [Array.mem_toList_iff]; exact Array.mem_of_getElem? h)
 simpa using this
end Go.TM.A8
