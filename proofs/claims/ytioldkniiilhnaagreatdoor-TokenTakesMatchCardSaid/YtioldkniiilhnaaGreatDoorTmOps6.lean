/- copy; conversions between strings and rows of bytes. -/
import Derived.Test.YtioldkniiilhnaaGreatDoorTmOps5
import Derived.Lib.Builder
import Derived.Lib.UnsafeStr
set_option linter.all false
namespace Go.TM
open Go
set_option linter.unusedVariables false
set_option linter.unusedSimpArgs false

theorem copy_run {P : Program} {w : World} {t u ty e : TypeId} (hu : P.underlying t = some (.slice e)) (hsz : szOf P e = some 1) {g o dLen dCap : Nat} {A B : Option Addr} {sLen sCap : Nat} {cur : Array Value} {et : TypeId} {cs : List Value}
  (hA : dLen = 0 ∨ A = some ⟨g, o, none⟩) (hg : w.heap[g]? = some (.cells cur et (0, 0))) (hn : cs.length = min sLen dLen)
  (hsrc : cs ≠ [] → ∃ ad, B = some ad ∧ ∀ j v, cs[j]? = some v → w.cell? (ad.add j) = some v) (hfit : o + cs.length ≤ cur.size) (h1 : ∀ v ∈ cs, v.oneCell' = true) :
  (Builtin.copy_ #[t, u] ty #[.slice A dLen dCap, .slice B sLen sCap]).run P w = .ok (.int .i64 (min sLen dLen : Nat)) (w.setRow g (cur.toList.take o ++ cs ++ cur.toList.drop (o + cs.length)).toArray) := by
 cases hcs : cs with
 | nil =>
  subst hcs
  have h0 : min sLen dLen = 0 := hn.symm
  have hw : w.setRow g (cur.toList.take o ++ [] ++ cur.toList.drop (o + 0)).toArray = w := by
   simp only [List.append_nil, Nat.add_zero, List.take_append_drop, Array.toArray_toList]
   exact setRow_self w g cur et (0, 0) hg
  simp only [List.length_nil]
  rw [hw, h0]
  have h0' : Nat.min sLen dLen = 0 := h0
  cases A <;> cases B <;> simp [Builtin.copy_, Sem.run_bind, run_underlying hu, Builtin.lenOf, sizeOf_run hsz, h0', Builtin.firstCells, loadCells, loadCellsFrom, storeCells, goInt]
 | cons c0 cs0 =>
  rw [← hcs]
  have hne : cs ≠ [] := by rw [hcs]; simp
  obtain ⟨ad, rfl, hc⟩ := hsrc hne
  have hd : dLen ≠ 0 := by
   intro h0; subst h0
   simp at hn
   exact hne hn
  obtain rfl := hA.resolve_left hd
  obtain ⟨i, hi, his⟩ := szOf_info hsz
  have := run_copy_row (P := P) w t u ty e g o dLen dCap ad sLen sCap cur et cs hu (by simp [hi, his]) hg hn hc hfit h1
  rw [this, hn]
  rfl

theorem copyT_sound {P : Program} {L : Nat} {c : Ctx} (hR : Rel c) (hL : ∀ l, c.D l → l.1 ≤ L) {t u ty : TypeId} {x y : T} {xv yv : Value} {re : Res} (h : copyT P c.S t x y = some re) (hx : Rep c x xv) (hy : Rep c y yv) :
  ∃ v c', (Builtin.copy_ #[t, u] ty #[xv, yv]).run P c.w = .ok v c'.w ∧ Stp L c re.S re.t v c' := by
 unfold copyT at h
 split at h
 ·rename_i e sz sy ys fy he hel
  obtain ⟨hu, hsz⟩ := elemT_slice he
  obtain ⟨B, n, cap2, rfl, rfl, hsn, hys, hys2⟩ := elemsOf_rep hR hel hy
  split at h
  ·rename_i l g off len
   split at h
   ·rename_i ro g' sz' e' xs hS
    split at h
    ·rename_i hc
     obtain ⟨rfl, rfl, rfl, rfl, hsy, hlen⟩ := hc
     simp only [Option.some.injEq] at h
     subst h
     cases hx with
     | own _ _ _ _ A cap ho =>
      simp only [OwnOk, hS] at ho
      obtain ⟨hD, _, h2, h3⟩ := ho.2 trivial
      obtain ⟨cur, fz, vs, hw, hfz, _, hEx, htk⟩ := hR.arr l _ _ _ _ _ hD hS
      obtain rfl := hfz rfl
     
      obtain ⟨us, hEu, hsrc⟩ : ∃ us, RepE c 1 ys us ∧ (us ≠ [] → ∃ ad, B = some ad ∧ ∀ j v, us[j]? = some v → c.w.cell? (ad.add j) = some v) := by
       by_cases hne : ys = []
       ·subst hne; exact ⟨[], .nil 1, by simp⟩
       ·obtain ⟨sz1, us, b, o, hs', hE, hB, hcl⟩ := hys hne
        have : sz1 = 1 := by
         rcases hsy with h | h
         ·rw [h] at hs'; cases hs'
         ·rw [h] at hs'; exact (Option.some.inj hs').symm
        subst this
        exact ⟨us, hE, fun _ => ⟨_, hB, fun j v hj => by rw [add_addr]; exact hcl j v hj⟩⟩
      have hul := hEu.length
      have hvl := hEx.length
      simp only [Nat.mul_one] at hul hvl
      have hE' := hEu.take (min ys.length len)
      simp only [Nat.mul_one] at hE'
      have hcl : (us.take (min ys.length len)).length = min ys.length len := by simp; omega
      have hcs : vs.length ≤ cur.size := by rw [← htk, List.length_take]; simp; omega
      have hrun := copy_run (P := P) (w := c.w) (u := u) (ty := ty) hu hsz (g := c.β l) (o := off) (dLen := len) (dCap := cap) (A := A) (B := B) (sLen := ys.length) (sCap := cap2) (cs := us.take (min ys.length len)) (by
        rcases h3 with h | ⟨_, _, hA, _⟩
        ·left; omega
        ·right; simpa using hA) hw hcl (fun hne => by
         obtain ⟨ad, hB, hcl⟩ := hsrc (fun h => hne (by rw [h]; simp))
         refine ⟨ad, hB, fun j v hj => hcl j v ?_⟩
         rw [List.getElem?_take] at hj
         split at hj
         ·exact hj
         ·cases hj) (by omega) (fun v hv => hEu.ones v (List.mem_of_mem_take hv))
      rw [hcl] at hrun
      have hwn := setRow_heap c.w (c.β l) cur (cur.toList.take off ++ us.take (min ys.length len) ++ cur.toList.drop (off + min ys.length len)).toArray e' (0, 0) hw
      have hsz2 : (cur.toList.take off ++ us.take (min ys.length len) ++ cur.toList.drop (off + min ys.length len)).length = cur.size := by simp; omega
      have hyl : (ys.take (min ys.length len)).length = min ys.length len := by rw [List.length_take]; omega
      have hp : PutOk c l (.arr false g 1 e' (splice xs off (ys.take (min ys.length len)))) (c.β l) (c.w.setRow (c.β l) (cur.toList.take off ++ us.take (min ys.length len) ++ cur.toList.drop (off + min ys.length len)).toArray) :=
       .inr ⟨g, 1, e', xs, g, _, hS, rfl, .inr ⟨rfl, by unfold TM.splice; rw [splice_length _ _ _ (by omega)], rfl, fun cur' fz' hc' => by
        rw [hw] at hc'
        simp only [Option.some.injEq, Obj.cells.injEq] at hc'
        obtain ⟨rfl, _, rfl⟩ := hc'
        exact ⟨_, _, hwn, by simpa using hsz2⟩⟩⟩
      have hoth : ∀ q, q < c.w.heap.size → q ≠ c.β l → (c.w.setRow (c.β l) (cur.toList.take off ++ us.take (min ys.length len) ++ cur.toList.drop (off + min ys.length len)).toArray).heap[q]? = c.w.heap[q]? := fun q _ hq => setRow_other _ _ _ _ hq
      refine ⟨_, ctxPut c l _ (c.β l) _, hrun, Stp.of_put hD hL (ctxPut_rel hR hD hp hoth (by simp) (.inl rfl) hwn ?_ ?_) (ctxPut_kept hR hD hp hoth)
       (ctxPut_fr hD hp (calm_setRow _ _ _) hoth (by simp) (.inl rfl)) (.sc _ rfl)⟩
      ·intro bt cs he; cases he
      ·intro ro g0 sz0 e0 xs0 heq
       injection heq with a1 a2 a3 a4 a5
       subst a1 a2 a3 a4 a5
       refine ⟨rfl, _, ((hEx.take off).append hE').append (hEx.drop (off + (ys.take (min ys.length len)).length)), ?_⟩
       simp only [List.toList_toArray, Nat.mul_one, hyl]
       have hvt : vs.take off = cur.toList.take off := by rw [← htk, List.take_take, Nat.min_eq_left (by omega)]
       have hvd : vs.drop (off + min ys.length len) = (cur.toList.drop (off + min ys.length len)).take (vs.length - (off + min ys.length len)) := by
        conv => lhs; rw [← htk]
        rw [List.drop_take]
       have hlA : (cur.toList.take off ++ us.take (min ys.length len)).length = off + min ys.length len := by simp; omega
       have hlen2 : (vs.take off ++ us.take (min ys.length len) ++ vs.drop (off + min ys.length len)).length = off + min ys.length len + (vs.length - (off + min ys.length len)) := by simp; omega
       rw [hlen2, hvt, hvd, List.take_append, List.take_of_length_le (by omega), hlA, Nat.add_sub_cancel_left]
    ·cases h
   ·cases h
  ·cases h
 ·cases h

/-! ### conversions -/
/-- A new block, shared from the first. -/
def ctxSh (c : Ctx) (b : Nat) (w' : World) : Ctx := { c with Sh := fun x => c.Sh x ∨ x = b, w := w' }

theorem ctxSh_kept {c : Ctx} {b : Nat} {w' : World} (hR : Rel c) (hw : ∀ x, x < c.w.heap.size → w'.heap[x]? = c.w.heap[x]?) : Kept c (ctxSh c b w') := by
 refine ⟨fun x hx => ⟨.inl hx, hw x (hR.lt x hx)⟩, fun l hl => ⟨hl, rfl⟩, fun l ro g sz e xs hS => .inr ⟨ro, g, sz, e, xs, hS, Nat.le_refl _, fun _ => ⟨rfl, rfl, rfl, fun hD => ⟨hD, rfl, fun cur fz hc => ⟨cur, fz, ?_, rfl⟩⟩⟩⟩, fun l h => h⟩
 show w'.heap[c.β l]? = _
 rw [hw _ (lt_of_get hc)]; exact hc

theorem ctxSh_rel {c : Ctx} {w' : World} (hR : Rel c) (hw : ∀ x, x < c.w.heap.size → w'.heap[x]? = c.w.heap[x]?) (hsz : c.w.heap.size < w'.heap.size) : Rel (ctxSh c c.w.heap.size w') := by
 have hk := ctxSh_kept (b := c.w.heap.size) hR hw
 refine ⟨fun l bt cs hD hS => ?_, fun l ro g sz e xs hD hS => ?_, fun l hD hm => ?_, fun l l' hD hD' hm hm' => hR.inj l l' hD hD' hm hm', fun b hb => ?_, hR.dom⟩
 ·obtain ⟨h1, vs, h3, h4⟩ := hR.box l bt cs hD hS
  exact ⟨h1, vs, (hw _ (lt_of_get h3)).trans h3, h4.kept hk⟩
 ·obtain ⟨cur, fz, vs, h3, h4, h5, h6, h7⟩ := hR.arr l ro g sz e xs hD hS
  exact ⟨cur, fz, vs, (hw _ (lt_of_get h3)).trans h3, h4, fun h => .inl (h5 h), h6.kept hk, h7⟩
 ·rintro (h | h)
  ·exact hR.nsh l hD hm h
  ·have := hR.mutLt hD (show Mut c l from hm)
   have h' : c.β l = c.w.heap.size := h
   omega
 ·rcases hb with hb | rfl
  ·exact Nat.lt_trans (hR.lt b hb) hsz
  ·exact hsz

theorem ctxSh_fr {c : Ctx} {w' : World} (hc : Calm c.w w') (hw : ∀ x, x < c.w.heap.size → w'.heap[x]? = c.w.heap[x]?) (hsz : c.w.heap.size ≤ w'.heap.size) : Fr c (ctxSh c c.w.heap.size w') :=
 ⟨hc.os, hc.tape, hc.output, hsz, fun b hb _ => hw b hb, fun l hD hm => .inl ⟨hD, hm, rfl⟩, fun b hb => (show c.Sh b ∨ b = c.w.heap.size from hb).imp id fun e => .inl (Nat.le_of_eq e.symm)⟩

theorem repE_sc {c : Ctx} : ∀ (vs : List Value), vs.all isSc = true → RepE c 1 (vs.map .sc) vs
 | [], _ => .nil 1
 | v :: vs, h => by
  simp only [List.all_cons, Bool.and_eq_true] at h
  have := RepE.cons (c := c) 1 (.sc v) v (vs.map .sc) vs (.sc v h.1) rfl (by simp [closed, h.1]) (repE_sc vs h.2)
  rw [isSc_cells h.1] at this
  exact this

theorem bytesT_rep (c : Ctx) (s : ByteArray) : RepE c 1 (bytesT s) (s.data.toList.map fun b => .int .u8 b.toNat) := by
 have := repE_sc (c := c) (s.data.toList.map fun b => Value.int .u8 b.toNat) (List.all_eq_true.2 (by intro v hv; obtain ⟨b, _, rfl⟩ := List.mem_map.1 hv; rfl))
 simpa [bytesT, Function.comp_def] using this

theorem bytesV_rep {c : Ctx} : ∀ (xs : List T) {bs : List UInt8} {us : List Value}, bytesV xs = some bs → RepE c 1 xs us → ∃ ns : List Int, us = ns.map (Value.int .u8) ∧ bs = ns.map fun n => UInt8.ofNat n.toNat
 | [], bs, us, h, hE => by
  simp only [bytesV, Option.some.injEq] at h; subst h
  cases hE
  exact ⟨[], rfl, rfl⟩
 | x :: xs, bs, us, h, hE => by
  cases hE with
  | cons _ _ v _ ws hx hl hcl hr =>
   cases x with
   | sc v' =>
    obtain rfl := hx.scv
    cases v with
    | int k n =>
     cases k <;> simp [bytesV] at h
     obtain ⟨bs', hb, rfl⟩ := h
     obtain ⟨ns, rfl, rfl⟩ := bytesV_rep xs hb hr
     exact ⟨n :: ns, by simp [Value.cells], rfl⟩
    | _ => simp [bytesV] at h
   | _ => simp [bytesV] at h

theorem foldl_push (ns : List Int) : ∀ s : ByteArray, ns.foldl (fun r n => r.push (UInt8.ofNat n.toNat)) s = ⟨(s.data.toList ++ ns.map fun n => UInt8.ofNat n.toNat).toArray⟩ := by
 induction ns with
 | nil => intro s; simp
 | cons n ns ih => intro s; rw [List.foldl_cons, ih]; simp [ByteArray.push]

theorem RepL.len {c : Ctx} : ∀ {ts : List T} {vs : List Value}, RepL c ts vs → vs.length = ts.length
 | _, _, .nil => rfl
 | _, _, .cons x v xs vs h hr => by simp [RepL.len hr]

theorem convT_sound {P : Program} {L : Nat} {c : Ctx} (hR : Rel c) (hL : ∀ l, c.D l → l.1 ≤ L) {src dst : TypeId} {x : T} {xv : Value} {re : Res} (h : convT P c.S src dst x = some re) (hx : Rep c x xv) :
  ∃ v c', (convert src dst xv).run P c.w = .ok v c'.w ∧ Stp L c re.S re.t v c' := by
 unfold convT at h
 split at h
 ·rename_i e s hsrc hdst
  obtain rfl := hx.scv
  split at h
  ·rename_i he
   split at h
   ·simp only [Option.some.injEq] at h
    subst h
    have hrun := Lib.run_convert_string_bytes (P := P) c.w src dst e s hsrc hdst he
    have hw : ∀ b, b < c.w.heap.size → (Lib.bytesWorld c.w e s).heap[b]? = c.w.heap[b]? := fun b hb => Lib.bytesWorld_at_old c.w e s b hb
    have hsz := Lib.bytesWorld_size c.w e s
    have hcalm : Calm c.w (Lib.bytesWorld c.w e s) := by
     unfold Lib.bytesWorld World.freeze
     split <;> exact ⟨rfl, rfl, rfl⟩
    refine ⟨_, ctxSh c c.w.heap.size (Lib.bytesWorld c.w e s), hrun, ctxSh_rel hR hw (by omega), ctxSh_kept hR hw, ctxSh_fr hcalm hw (by omega), rfl, ?_, hL, fun _ h => .inl h, fun h => h⟩
    have hE := bytesT_rep (ctxSh c c.w.heap.size (Lib.bytesWorld c.w e s)) s
    have hlen : (bytesT s).length = s.size := by simp [bytesT]
    have := Rep.lst (c := ctxSh c c.w.heap.size (Lib.bytesWorld c.w e s)) 1 (bytesT s) c.w.heap.size 0 (grownCap c.w s.size 0 e) _ (.inr rfl) hE (fun i v hi => by
     rw [List.getElem?_map] at hi
     cases hb : s.data.toList[i]? with
     | none => simp [hb] at hi
     | some b =>
      simp only [hb, Option.map_some, Option.some.injEq] at hi
      subst hi
      have hi' : i < s.size := by have := (List.getElem?_eq_some_iff.1 hb).1; simpa using this
      rw [Nat.zero_add]
      show (Lib.bytesWorld c.w e s).cell? _ = _
      rw [Lib.bytesWorld_cell c.w e s i hi', List.getD_eq_getElem?_getD, hb]
      rfl) (by rw [hlen]; exact grownCap_ge _ _ _ _)
    rw [hlen] at this
    exact this
   ·cases h
  ·cases h
 ·rename_i x' e hsrc hdst
  split at h
  ·rename_i xs f he hel
   cases hb : bytesV xs with
   | none => simp [hb] at h
   | some bs =>
    simp only [hb, Option.map_some, Option.some.injEq] at h
    subst h
    obtain ⟨A, n, cap, rfl, rfl, hsn, hys, hys2⟩ := elemsOf_rep hR hel hx
    obtain ⟨us, hE⟩ := hys2 1 rfl
    refine ⟨.string ⟨bs.toArray⟩, c, ?_, .same hR hL (.sc _ rfl)⟩
    rw [run_convert_bytes_string c.w src dst e A xs.length cap hsrc he hdst]
    by_cases hne : xs = []
    ·subst hne
     simp only [bytesV, Option.some.injEq] at hb
     subst hb
     cases A with
     | none => simp [Conv.bytesToString]; rfl
     | some ad =>
      exact (run_bytesToString c.w ad 0 cap [] (by simp [loadCells, loadCellsFrom])).trans rfl
    ·obtain ⟨sz, us', b, o, hs', hE', rfl, hcl⟩ := hys hne
     cases hs'
     obtain ⟨ns, rfl, rfl⟩ := bytesV_rep xs hb hE'
     have hl := hE'.length
     simp only [List.length_map, Nat.mul_one] at hl
     have hld := run_loadCells_list (P := P) (w := c.w) ⟨b, o, none⟩ (ns.map (Value.int .u8)) (fun j v hj => by rw [add_addr]; exact hcl j v hj)
     rw [List.length_map, hl] at hld
     rw [run_bytesToString c.w ⟨b, o, none⟩ xs.length cap ns hld, foldl_push]
     rfl
  ·cases h
 ·rename_i t l off hsrc hdst
  split at h
  ·rename_i bt cs n hS hn
   split at h
   ·rename_i hc
    simp only [Option.some.injEq] at h
    subst h
    obtain ⟨j, hj, rfl⟩ := szOf_info hn
    have hx' := hx
    cases hx with
    | ptr _ _ hb =>
     obtain ⟨_, vs, hw, hl⟩ := hR.box l _ _ hb.1 hS
     have hlen := hl.len
     exact ⟨_, c, Lib.run_to_unsafe c.w ⟨c.β l, off, none⟩ hsrc hdst hj hc.1 (e := bt) (cells := vs.length) (by simp [World.shape?, hw]) (by show off < _; omega), .same hR hL hx'⟩
   ·cases h
  ·cases h
 ·rename_i u l off hsrc hdst
  split at h
  ·rename_i bt cs n hS hn
   split at h
   ·rename_i hc
    simp only [Option.some.injEq] at h
    subst h
    obtain ⟨j, hj, rfl⟩ := szOf_info hn
    have hx' := hx
    cases hx with
    | ptr _ _ hb =>
     obtain ⟨_, vs, hw, hl⟩ := hR.box l _ _ hb.1 hS
     have hlen := hl.len
     exact ⟨_, c, Lib.run_from_unsafe c.w ⟨c.β l, off, none⟩ hsrc hdst hj (e := bt) (cells := vs.length) (by simp [World.shape?, hw]) (by rw [hlen]; exact hc), .same hR hL hx'⟩
   ·cases h
  ·cases h
 ·cases h

theorem appendS_sound {P : Program} {om : FuncId → List Nat} {L : Nat} {c : Ctx} (hR : Rel c) (hL : ∀ l, c.D l → l.1 ≤ L) {d : Option Tmp} {t u ty : TypeId} {x : T} {b : ByteArray} {xv : Value} {re : Res}
  (h : appendS P om L d c.S t u x b = some re) (hx : Rep c x xv) :
  ∃ v c', (Builtin.append_ #[t, u] ty #[xv, .string b]).run P c.w = .ok v c'.w ∧ Stp L c re.S re.t v c' := by
 unfold appendS at h
 split at h
 ·rename_i e0 hu he0
  refine appendC_sound hR hL h hx fun e sz sy ys fy he hel hsy => ?_
  rw [he0] at he
  simp only [Option.some.injEq, Prod.mk.injEq] at he
  obtain ⟨rfl, rfl⟩ := he
  simp only [elemsOf, Option.some.injEq, Prod.mk.injEq] at hel
  obtain ⟨rfl, rfl, rfl⟩ := hel
  have hs := Src.ofString (P := P) c.w hu b
  have hlen : (bytesT b).length = b.size := by simp [bytesT]
  exact ⟨_, by rw [hlen]; exact hs, bytesT_rep c b⟩
 ·cases h

end Go.TM
