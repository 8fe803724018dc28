/- What package strings' Builder does: pointers held against each other, NoEscape, the bytes of a row taken as a string. -/
import Derived.Test.YtioldkniiilhnaaGreatDoorTmOps6
import Derived.Laws.Externs
set_option linter.all false
namespace Go.TM
open Go
set_option linter.unusedVariables false
set_option linter.unusedSimpArgs false

theorem ptrEq_run {P : Program} {c : Ctx} {tp te : TypeId} (hp : P.underlying tp = some (.pointer te)) (hte : (P.info? te).isSome = true) {x y : T} {r : Bool} {xv yv : Value} (h : ptrEq x y = some r) (hx : Rep c x xv) (hy : Rep c y yv) (d : Nat) (w : World) :
  (Op.equalIn (d + 1) tp xv yv).run P w = .ok r w := by
 obtain ⟨j, hj⟩ := Option.isSome_iff_exists.1 hte
 unfold ptrEq at h
 split at h
 ·split at h
  ·rename_i hl
   obtain ⟨rfl, rfl⟩ := hl
   cases h
   cases hx; cases hy
   simp [Op.equalIn, run_underlying hp, sizeOf, typeInfo, hj, run_sameAddr_same]
  ·cases h
 ·cases h; cases hx; cases hy; simp [Op.equalIn, run_underlying hp]
 ·cases h; cases hx; cases hy; simp [Op.equalIn, run_underlying hp]
 ·cases h; cases hx; cases hy; simp [Op.equalIn, run_underlying hp]
 ·cases h; cases hx; cases hy; simp [Op.equalIn, run_underlying hp]
 ·cases h

theorem peqT_run {P : Program} {c : Ctx} {op : BinOp} {t : TypeId} {x y : T} {r : Bool} {xv yv : Value} (h : peqT P op t x y = some r) (hx : Rep c x xv) (hy : Rep c y yv) (xo yo : Operand) (w : World) :
  (do eqGuard op t xo yo xv yv; binOp op t xv yv : Sem Value).run P w = .ok (.bool r) w := by
 unfold peqT at h
 split at h
 ·rename_i e hp
  split at h
  ·rename_i hi
   have hg : ∃ p q, xv = .pointer p ∧ yv = .pointer q := by
    have : (ptrEq x y).isSome = true := by
     cases op <;> simp only at h <;> first | (rw [h]; rfl) | (cases hq : ptrEq x y <;> simp [hq] at h ⊢; done) | (cases h; done)
    unfold ptrEq at this
    split at this <;> first | (cases this; done) | (cases hx; cases hy; exact ⟨_, _, rfl, rfl⟩)
   obtain ⟨p, q, rfl, rfl⟩ := hg
   have hgd : (eqGuard op t xo yo (.pointer p) (.pointer q)).run P w = .ok () w := by unfold eqGuard; cases op <;> rfl
   cases op <;> simp only at h <;> try cases h
   ·have := ptrEq_run hp hi h hx hy 9999 w
    simp [Sem.run_bind, hgd, Result.andThen, binOp, Op.equal, Op.maxDepth, this]
   ·cases hq : ptrEq x y with
    | none => simp [hq] at h
    | some b =>
     simp only [hq, Option.map_some, Option.some.injEq] at h
     subst h
     have := ptrEq_run hp hi hq hx hy 9999 w
     simp [Sem.run_bind, hgd, Result.andThen, binOp, Op.equal, Op.maxDepth, this]
  ·cases h
 ·cases h

theorem find_noEsc {fn : Func} (h : fn.name = "internal/abi.NoEscape") : Extern.find fn = some Extern.AbiNoEscape.same := by
 have h1 : Extern.allGenericRows.lookup "internal/abi.NoEscape" = none := by rfl
 have h2 : Extern.allTypedRows.lookup "internal/abi.NoEscape" = none := by rfl
 have h3 : Extern.allRows.lookup "internal/abi.NoEscape" = some Extern.AbiNoEscape.same := by rfl
 unfold Extern.find
 simp only [h, h1, h2, h3]
 rfl

theorem noEsc_run {P : Program} {g : FuncId} {f0 c0 : Array Value} (h : isNoEsc P (.sc (.func (.func g) f0 c0)) = true) (v : Value) (w : World) : (callFunc g #[v]).run P w = .ok (.value v) w := by
 unfold isNoEsc at h
 simp only at h
 split at h
 ·rename_i fn hf
  simp only [Bool.and_eq_true, beq_iff_eq, Option.isNone_iff_eq_none] at h
  obtain ⟨⟨⟨h1, h2⟩, h3⟩, h4⟩ := h
  rw [run_callFunc_extern hf (by rw [h2]; rfl) (by rw [h1]; rfl) (by unfold Extern.findNext; simp only [h3, h4]; rfl) (find_noEsc h2)]
  rfl
 ·cases h

theorem usdT_sound {P : Program} {L : Nat} {c : Ctx} (hR : Rel c) (hL : ∀ l, c.D l → l.1 ≤ L) {ts : Array TypeId} {ty : TypeId} {x t : T} {xv : Value} (h : usdT c.S x = some t) (hx : Rep c x xv) :
  ∃ v, (Builtin.unsafeSliceData_ ts ty #[xv]).run P c.w = .ok v c.w ∧ Stp L c c.S t v c := by
 unfold usdT at h
 split at h
 ·rename_i l g off len
  split at h
  ·rename_i ro g' sz e xs hS
   split at h
   ·rename_i hc
    obtain ⟨rfl, hlen⟩ := hc
    simp only [Option.some.injEq] at h
    subst h
    cases hx with
    | own _ _ _ _ A cap ho =>
     have ho' := ho
     simp only [OwnOk, hS] at ho'
     obtain ⟨hD, h1, h2, h3⟩ := ho'.2 trivial
     obtain ⟨cur, fz, rfl, _, _⟩ := h3.resolve_left (by omega)
     refine ⟨_, Lib.run_unsafeSliceData_row c.w ts ty _ len cap (by omega), .same hR hL (.aptr _ _ _ _ _ ?_)⟩
     simp only [AptrOk, hS]
     exact ⟨Nat.le_refl _, fun _ => ⟨hD, by omega, by simp⟩⟩
   ·cases h
  ·cases h
 ·rename_i n cp
  simp only [Option.some.injEq] at h
  subst h
  obtain rfl := hx.scv
  exact ⟨_, Lib.run_unsafeSliceData_nil c.w ts ty _ _, .same hR hL (.sc _ rfl)⟩
 ·cases h

def ctxFz (c : Ctx) (l : Loc) (w' : World) : Ctx := { S := setRo c.S [l], D := c.D, β := c.β, Sh := fun b => c.Sh b ∨ b = c.β l, w := w' }

theorem ctxFz_mut {c : Ctx} {l : Loc} {w' : World} {g sz : Nat} {e : TypeId} {xs : List T} (hS : c.S l = some (.arr false g sz e xs)) {m : Loc} (h : Mut (ctxFz c l w') m) : Mut c m ∧ m ≠ l := by
 have := ctxShut_mut (c := c) (ls := [l]) (l := m) h
 refine ⟨this.1, ?_⟩
 rintro rfl
 exact this.2 (by simp) _ _ _ _ _ hS

section
variable {c : Ctx} {l : Loc} {g sz : Nat} {e : TypeId} {xs : List T} {w' : World} {cur : Array Value} {fz1 : Nat × Nat}

theorem ctxFz_kept (hR : Rel c) (hD : c.D l) (hS : c.S l = some (.arr false g sz e xs)) (hold : c.w.heap[c.β l]? = some (.cells cur e (0, 0))) (hnew : w'.heap[c.β l]? = some (.cells cur e fz1))
  (hoth : ∀ b, b ≠ c.β l → w'.heap[b]? = c.w.heap[b]?) : Kept c (ctxFz c l w') := by
 have hm : Mut c l := by simp [Mut, hS]
 refine ⟨fun b hb => ⟨.inl hb, hoth b fun hq => hR.nsh l hD hm (hq ▸ hb)⟩, fun m hl => ⟨⟨hl.1, ?_⟩, rfl⟩, fun m ro g1 sz1 e1 xs1 hS1 => .inr ⟨_, g1, sz1, e1, xs1, setRo_arr hS1, Nat.le_refl _, fun _ => ⟨rfl, rfl, rfl, fun hD1 => ⟨hD1, rfl, fun cur1 fz h => ?_⟩⟩⟩, fun m hg => ?_⟩
 ·obtain ⟨bt, cs, h⟩ := hl.2
  exact ⟨bt, cs, by simp [ctxFz, setRo, h]⟩
 ·by_cases hq : c.β m = c.β l
  ·rw [hq, hold] at h
   simp only [Option.some.injEq, Obj.cells.injEq] at h
   obtain ⟨rfl, rfl, _⟩ := h
   exact ⟨cur, fz1, by show w'.heap[_]? = _; rw [hq]; exact hnew, rfl⟩
  ·exact ⟨cur1, fz, (hoth _ hq).trans h, rfl⟩
 ·simp [ctxFz, setRo, hg]

theorem ctxFz_rel (hR : Rel c) (hD : c.D l) (hS : c.S l = some (.arr false g sz e xs)) (hold : c.w.heap[c.β l]? = some (.cells cur e (0, 0))) (hnew : w'.heap[c.β l]? = some (.cells cur e fz1))
  (hoth : ∀ b, b ≠ c.β l → w'.heap[b]? = c.w.heap[b]?) (hsz : c.w.heap.size ≤ w'.heap.size) : Rel (ctxFz c l w') := by
 have hk := ctxFz_kept hR hD hS hold hnew hoth
 have hm : Mut c l := by simp [Mut, hS]
 have ne : ∀ m, c.D m → Mut c m → m ≠ l → c.β m ≠ c.β l := fun m hDm hmm hne hq => hne (hR.inj m l hDm hD hmm hm hq)
 refine ⟨fun m bt cs hDm hSm => ?_, fun m ro g1 sz1 e1 xs1 hDm hSm => ?_, fun m hDm hmm => ?_, fun m m' hDm hDm' hmm hmm' hβ => hR.inj m m' hDm hDm' (ctxFz_mut hS hmm).1 (ctxFz_mut hS hmm').1 hβ, fun b hb => ?_, fun m hDm hSm => hR.dom m hDm (setRo_none.1 hSm)⟩
 ·have hSm' : c.S m = some (.box bt cs) := by
   rcases setRo_inv hSm with ⟨ro, g, sz, e, xs, h1, h2⟩ | ⟨h1, h2⟩
   ·cases h2
   ·exact h1
  obtain ⟨h1, vs, h3, h4⟩ := hR.box m bt cs hDm hSm'
  exact ⟨h1, vs, (hoth _ (ne m hDm (by simp [Mut, hSm']) (by rintro rfl; rw [hS] at hSm'; cases hSm'))).trans h3, h4.kept hk⟩
 ·rcases setRo_inv hSm with ⟨ro1, g2, sz2, e2, xs2, h1, h2⟩ | ⟨h1, h2⟩
  ·injection h2 with a1 a2 a3 a4 a5
   subst a2 a3 a4 a5
   obtain ⟨cur1, fz, vs, b1, b2, b3, b4, b5⟩ := hR.arr m _ _ _ _ _ hDm h1
   by_cases hml : m = l
   ·subst hml
    rw [hold] at b1
    simp only [Option.some.injEq, Obj.cells.injEq] at b1
    obtain ⟨rfl, rfl, rfl⟩ := b1
    exact ⟨cur, fz1, vs, hnew, fun h => by subst a1; simp at h, fun _ => .inr rfl, b4.kept hk, b5⟩
   ·have hne : c.β m ≠ c.β l := by
     cases ro1 with
     | false => exact ne m hDm (by simp [Mut, h1]) hml
     | true => exact fun hq => hR.nsh l hD hm (hq ▸ b3 rfl)
    refine ⟨cur1, fz, vs, (hoth _ hne).trans b1, fun h => b2 ?_, fun h => .inl (b3 ?_), b4.kept hk, b5⟩
    ·subst a1; simpa [hml] using h
    ·subst a1; simpa [hml] using h
  ·exact absurd rfl (h2 _ _ _ _ _)
 ·obtain ⟨h1, h2⟩ := ctxFz_mut hS hmm
  rintro (h | h)
  ·exact hR.nsh m hDm h1 h
  ·exact ne m hDm h1 h2 h
 ·rcases hb with hb | rfl
  ·exact Nat.lt_of_lt_of_le (hR.lt b hb) hsz
  ·exact Nat.lt_of_lt_of_le (lt_of_get hold) hsz

theorem ctxFz_fr (hR : Rel c) (hD : c.D l) (hS : c.S l = some (.arr false g sz e xs)) (hc : Calm c.w w') (hoth : ∀ b, b ≠ c.β l → w'.heap[b]? = c.w.heap[b]?) (hsz : c.w.heap.size ≤ w'.heap.size) : Fr c (ctxFz c l w') := by
 have hm : Mut c l := by simp [Mut, hS]
 refine ⟨hc.os, hc.tape, hc.output, hsz, fun b _ hn => hoth b fun hq => hn l hD hm hq.symm, fun m hDm hmm => .inl ⟨hDm, (ctxFz_mut hS hmm).1, rfl⟩, fun b hb => ?_⟩
 rcases hb with hb | rfl
 ·exact .inl hb
 ·exact .inr (.inr ⟨l, hD, hm, rfl⟩)

end

theorem bytesS_rep {c : Ctx} : ∀ (xs : List T) {bs : List UInt8} {us : List Value}, bytesV xs = some bs → xs.all isByte = true → RepE c 1 xs us → us = bs.map fun x => Value.int .u8 x.toNat
 | [], bs, us, h, _, hE => by
  simp only [bytesV, Option.some.injEq] at h; subst h
  cases hE
  rfl
 | x :: xs, bs, us, h, ha, hE => by
  cases hE with
  | cons _ _ v _ ws hx hl hcl hr =>
   cases x with
   | sc v' =>
    obtain rfl := hx.scv
    cases v with
    | int k n =>
     cases k <;> simp [bytesV] at h
     obtain ⟨bs', hb, rfl⟩ := h
     simp only [List.all_cons, Bool.and_eq_true, isByte, decide_eq_true_eq] at ha
     rw [bytesS_rep xs hb ha.2 hr]
     have : ((UInt8.ofNat n.toNat).toNat : Int) = n := by
      rw [UInt8.toNat_ofNat']
      omega
     rw [List.map_cons, this]
     rfl
    | _ => simp [bytesV] at h
   | _ => simp [bytesV] at h

theorem ustrT_sound {P : Program} {L : Nat} {c : Ctx} (hR : Rel c) (hL : ∀ l, c.D l → l.1 ≤ L) {pt it ty : TypeId} {p n t : T} {S' : Store} {pv nv : Value} (h : ustrT P c.S pt p n = some (t, S')) (hp : Rep c p pv) (hn : Rep c n nv) :
  ∃ v c', (Builtin.unsafeString_ #[pt, it] ty #[pv, nv]).run P c.w = .ok v c'.w ∧ Stp L c S' t v c' := by
 unfold ustrT at h
 split at h
 ·rename_i n
  split at h
  ·rename_i h0
   simp only [Option.some.injEq, Prod.mk.injEq] at h
   obtain ⟨rfl, rfl⟩ := h
   subst h0
   obtain rfl := hp.scv
   obtain rfl := hn.scv
   exact ⟨_, c, Lib.run_unsafeString_none c.w _ _ _ none, .same hR hL (.sc _ rfl)⟩
  ·cases h
 ·rename_i l g i off n
  split at h
  ·rename_i e ro g' sz e' xs hu hS
   split at h
   ·rename_i hc
    obtain ⟨rfl, rfl, rfl, rfl, rfl, rfl, hco, hn0, hnl, hnm, hall⟩ := hc
    simp only [Option.map_eq_some_iff, Prod.mk.injEq] at h
    obtain ⟨bs, hbs, rfl, rfl⟩ := h
    obtain rfl := hn.scv
    cases hp with
    | aptr _ _ _ _ q ho =>
     simp only [AptrOk, hS] at ho
     obtain ⟨hD, hi, rfl⟩ := ho.2 trivial
     obtain ⟨cur, fz, vs, hw, hfz, _, hE, htk⟩ := hR.arr l _ _ _ _ _ hD hS
     obtain rfl := hfz rfl
     have hE2 := hE.take n.toNat
     have hus := bytesS_rep _ hbs hall hE2
     have hvl := hE.length
     have hbl : bs.length = n.toNat := by
      have := congrArg List.length hus
      rw [hE2.length] at this
      simp only [List.length_map, List.length_take] at this
      omega
     have hcur : vs.length ≤ cur.size := by
      have := congrArg List.length htk
      simp only [List.length_take, Array.length_toList] at this
      omega
     have hrun := Lib.run_unsafeString_row (P := P) c.w pt it ty e' hu hco (c.β l) cur.size (by simp [World.shape?, hw]) bs (by intro h; subst h; simp at hbl; omega) (by omega) (by omega) (fun j x hj => by
      rw [add_addr, Nat.zero_add, cell_at hw, ← Array.getElem?_toList]
      refine take_get htk ?_
      have h1 : (vs.take (n.toNat * 1))[j]? = some (.int .u8 x.toNat) := by rw [hus, List.getElem?_map, hj]; rfl
      rw [List.getElem?_take] at h1
      split at h1
      ·exact h1
      ·cases h1)
     have hlen : (bs.length : Int) = n := by omega
     rw [hlen] at hrun
     have hne : bs.length ≠ 0 := by omega
     have hnew : (c.w.freeze ⟨c.β l, 0, none⟩ bs.length).heap[c.β l]? = some (.cells cur e' (0, 0 + bs.length)) := by simp [World.freeze, hne, Array.getElem?_modify, hw]
     have hoth : ∀ b, b ≠ c.β l → (c.w.freeze ⟨c.β l, 0, none⟩ bs.length).heap[b]? = c.w.heap[b]? := fun b hb => by simp [World.freeze, hne, Array.getElem?_modify, Ne.symm hb]
     have hsz : (c.w.freeze ⟨c.β l, 0, none⟩ bs.length).heap.size = c.w.heap.size := by simp [World.freeze, hne]
     have hcalm : Calm c.w (c.w.freeze ⟨c.β l, 0, none⟩ bs.length) := by unfold World.freeze; split <;> exact ⟨rfl, rfl, rfl⟩
     refine ⟨_, ctxFz c l (c.w.freeze ⟨c.β l, 0, none⟩ bs.length), by simp only [Nat.zero_mul, Nat.add_zero]; exact hrun, ctxFz_rel hR hD hS hw hnew hoth (by omega), ctxFz_kept hR hD hS hw hnew hoth, ctxFz_fr hR hD hS hcalm hoth (by omega), rfl, .sc _ rfl, hL, fun _ h => .inl h,
      fun hf m hm => hf m fun h0 => hm (setRo_none.2 h0)⟩
   ·cases h
  ·cases h
 ·cases h

end Go.TM
