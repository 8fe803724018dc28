/- The light form of an operation comes to the same. -/
import Derived.Test.YtgmclgajlofljaaGreatDoorTmLight
set_option linter.all false
namespace Go.TM
open Go
section
variable {P : Program} {call : CallF} {om : FuncId → List Nat} {L : Nat} {o : Oper} {s : Slots} {S : Store}
theorem ruleA_not (h : plainOp o.op = false) : ruleA P o s = none := by
 unfold ruleA; simp [h]
theorem ruleA_miss {x : Operand} (hx : x ∈ o.op.operands) (h : isScO s x = false) : ruleA P o s = none := by
 unfold ruleA
 have : o.op.operands.all (isScO s) = false := by
  cases hc : o.op.operands.all (isScO s) with
  | false => rfl
  | true => have := Array.all_eq_true_iff_forall_mem.1 hc x hx; rw [h] at this; cases this
 simp [this]
theorem ruleA_halt (h : pureRun P (execOp (scV s) o) = none) : ruleA P o s = none := by
 unfold ruleA; simp [h]
theorem evalOp_ruleA {t : T} (h : ruleA P o s = some t) : evalOp P call om L o s S = some ⟨t, S, 0⟩ := by
 unfold evalOp; simp [h]
theorem binS_sc {op : BinOp} {a b v : Value} (h : binS op a b = some v) : isSc v = true := by
 unfold binS at h
 split at h
 ·cases op <;> simp only at h <;> split at h <;> first | (cases h; done) | (simp only [Option.some.injEq] at h; subst h; rfl)
 ·cases op <;> simp only at h <;> first | (cases h; done) | (split at h <;> first | (cases h; done) | (simp only [Option.some.injEq] at h; subst h; rfl)) | (simp only [Option.some.injEq] at h; subst h; rfl)
 ·cases h
theorem ev_sc {x : Operand} {v : Value} (h : ev s x = some (.sc v)) : isScO s x = true := (isScO_of h).1
theorem pure_value {m : Sem Value} {v : Value} (h : pureRun P m = some v) : pureRun P (do pure (Next.value (← m)) : Sem Next) = some (.value v) := by
 rw [pureRun_bind, h]; rfl
theorem pure_halt {m : Sem Value} (h : pureRun P m = none) : pureRun P (do pure (Next.value (← m)) : Sem Next) = none := by
 rw [pureRun_bind, h]; rfl
theorem pure_sliceBound {k : IntKind} {i : Int} {y : Nat} {code : BoundsCode} (h : 0 ≤ i ∧ i ≤ y) : pureRun P (Instr.sliceBound (.int k i) y code) = some i.toNat := by
 simp only [Instr.sliceBound, asIntOf, pureRun_bind, pureRun_pure, Option.bind_some, h, and_self, if_true]
theorem builtin_pure {c : Call} {b : Builtin} {ρ : Operand → Value} (ho : o.op = .call c) (hb : c.callee = .builtin b) :
  ∃ k, pureRun P (execOp ρ o) = pureRun P (builtin b c.argTypes o.type k (c.args.map ρ)) := by
 simp only [execOp, ho, resolve, hb]
 exact ⟨_, by simp only [pureRun_bind, pureRun_pure, Option.bind_some, invoke]; rfl⟩
theorem bnd_sc {dflt : Nat} {x : Operand} {i : Int} (h : bndO s dflt (some x) = some i) : ∃ k, ev s x = some (.sc (.int k i)) := by
 unfold bndO at h
 simp only at h
 split at h
 ·rename_i k m hx
  simp only [Option.some.injEq] at h
  subst h
  exact ⟨k, hx⟩
 ·cases h
theorem cut_pure {x : Operand} {b : ByteArray} {lo hi : Option Operand} {t : TypeId} {u : T} (hu : P.underlying t = some .string) (hop : o.op = .slice t x lo hi none) (hx : ev s x = some (.sc (.string b))) (h : cutSR s b lo hi = some u) :
  ruleA P o s = some u := by
 unfold cutSR at h
 split at h
 ·rename_i l r hl hr
  split at h
  ·rename_i hb
   simp only [Option.some.injEq] at h
   subst h
   refine ruleA_intro (by rw [hop]; rfl) (fun y hy => ?_) ?_ rfl
   ·rw [hop] at hy
    simp only [Op.operands] at hy
    cases lo <;> cases hi <;> simp at hy
    ·subst hy; exact ev_sc hx
    ·rename_i z
     obtain ⟨k, hk⟩ := bnd_sc hr
     rcases hy with rfl | rfl
     ·exact ev_sc hx
     ·exact ev_sc hk
    ·rename_i z
     obtain ⟨k, hk⟩ := bnd_sc hl
     rcases hy with rfl | rfl
     ·exact ev_sc hx
     ·exact ev_sc hk
    ·rename_i z z'
     obtain ⟨k, hk⟩ := bnd_sc hl
     obtain ⟨k', hk'⟩ := bnd_sc hr
     rcases hy with rfl | rfl | rfl
     ·exact ev_sc hx
     ·exact ev_sc hk
     ·exact ev_sc hk'
   ·simp only [execOp, hop]
    refine pure_value ?_
    simp only [Instr.sliceAt, Instr.slice, pureRun_bind, pureRun_underlying hu, Option.bind_some, (isScO_of hx).2, Option.map_none, Option.isSome_none, Bool.false_eq_true, if_false, Instr.sliceBounds, pureRun_pure]
    cases lo with
    | none =>
     simp only [bndO, Option.some.injEq] at hl
     subst hl
     cases hi with
     | none =>
      simp only [bndO, Option.some.injEq] at hr
      subst hr
      simp [pureRun_pure]
     | some z =>
      obtain ⟨k', hk'⟩ := bnd_sc hr
      simp only [Option.map_some, (isScO_of hk').2, Option.map_none, pureRun_bind, pureRun_pure]
      rw [pure_sliceBound (i := r) ⟨by omega, by omega⟩]
      simp [pureRun_pure]
    | some y =>
     obtain ⟨k, hk⟩ := bnd_sc hl
     cases hi with
     | none =>
      simp only [bndO, Option.some.injEq] at hr
      subst hr
      simp only [Option.map_some, Option.map_none, (isScO_of hk).2, pureRun_pure, Option.bind_some, pureRun_bind]
      rw [pure_sliceBound (i := l) ⟨by omega, by omega⟩]
      simp [pureRun_pure]
     | some z =>
      obtain ⟨k', hk'⟩ := bnd_sc hr
      simp only [Option.map_some, (isScO_of hk').2, (isScO_of hk).2, pureRun_bind]
      rw [pure_sliceBound (i := r) ⟨by omega, by omega⟩]
      simp only [Option.bind_some]
      rw [pure_sliceBound (i := l) ⟨by omega, by omega⟩]
      simp [pureRun_pure]
  ·cases h
 ·cases h
theorem pureRun_sizeOf {t : TypeId} {n : Nat} (h : szOf P t = some n) : pureRun P (sizeOf t) = some n := by
 obtain ⟨i, hi, rfl⟩ := Option.map_eq_some_iff.1 h
 have h1 : pureRun P (typeInfo t) = some i := by
  show pureRun P (match P.info? t with | some i => pure i | none => stuck "no such type") = _
  rw [hi]; rfl
 unfold sizeOf
 rw [pureRun_bind, h1]; rfl
theorem slcN_pure {x z : Operand} {t e : TypeId} {sz : Nat} {u : T} (hu : P.underlying t = some (.slice e)) (hsz : szOf P e = some sz) (hop : o.op = .slice t x none (some z) none) (hx : ev s x = some (.sc (.slice none 0 0))) (h : cutT s none (some z) none 0 (fun _ _ => .sc (.slice none 0 0)) = some u) :
  ruleA P o s = some u := by
 unfold cutT at h
 split at h
 ·rename_i l r m hl hr hm
  split at h
  ·rename_i hb
   simp only [Option.some.injEq] at h
   subst h
   obtain ⟨k, hz⟩ := bnd_sc hr
   simp only [bndO, Option.some.injEq] at hl hm
   obtain rfl : r = 0 := by omega
   refine ruleA_intro (by rw [hop]; rfl) (fun y hy => ?_) ?_ rfl
   ·rw [hop] at hy
    simp only [Op.operands] at hy
    rcases (by simpa using hy : y = x ∨ y = z) with rfl | rfl
    ·exact ev_sc hx
    ·exact ev_sc hz
   ·simp only [execOp, hop]
    refine pure_value ?_
    simp only [Instr.sliceAt, Instr.slice, pureRun_bind, pureRun_underlying hu, Option.bind_some, (isScO_of hx).2, Option.map_none, Option.map_some, (isScO_of hz).2, Instr.sliceBounds, pureRun_pure]
    rw [pure_sliceBound (i := 0) ⟨by omega, by omega⟩]
    simp [pureRun_pure, pureRun_bind, pureRun_sizeOf hsz]
  ·cases h
 ·cases h
theorem loadR_eq {t : TypeId} {ag : Bool} {n : Nat} {a x : T} (h1 : isAggT P t = some ag) (h2 : szOf P t = some n) (h : loadR ag n S a = some x) : ∃ e, loadT P S t a = some ⟨x, S, e⟩ := by
 unfold loadT
 simp only [h1, h2]
 unfold loadR at h
 split at h
 ·split at h
  ·rename_i hS; simp only [hS, h]; exact ⟨1, rfl⟩
  ·cases h
 ·split at h
  ·rename_i hx; simp only [hx, h]; exact ⟨0, rfl⟩
  ·cases h
 ·split at h
  ·rename_i hS
   split at h
   ·rename_i hg
    split at h
    ·rename_i hx; simp only [hS, if_pos hg, hx, h]; exact ⟨1, rfl⟩
    ·cases h
   ·cases h
  ·cases h
 ·cases h
theorem storeR_eq {t : TypeId} {n : Nat} {a v : T} {S' : Store} (h2 : szOf P t = some n) (h : storeR n S a v = some S') : ∃ e, storeT P S t a v = some ⟨.tup [], S', e⟩ := by
 unfold storeT
 simp only [h2]
 unfold storeR at h
 split at h
 ·rename_i hl
  rw [if_pos hl]
  split at h
  ·split at h
   ·rename_i hS
    split at h
    ·rename_i hc
     simp only [Option.some.injEq] at h
     subst h
     simp only [hS, if_pos hc]
     exact ⟨2, rfl⟩
    ·cases h
   ·cases h
  ·split at h
   ·rename_i hf
    split at h
    ·rename_i hS
     split at h
     ·rename_i hc
      simp only [Option.some.injEq] at h
      subst h
      simp only [hf, hS, if_pos hc]
      exact ⟨2, rfl⟩
     ·cases h
    ·cases h
   ·cases h
  ·cases h
 ·cases h
theorem newArrR_eq {d : Option Tmp} {sz : Nat} {e : TypeId} {xs : List T} {t : T} {S' : Store} {eff : Nat} (h : newArrR L d sz e xs S = some (t, S')) : newArr L d sz e xs S eff = some ⟨t, S', eff⟩ := by
 unfold newArrR at h
 unfold newArr
 split at h
 ·split at h
  ·rename_i hc
   simp only [Option.some.injEq, Prod.mk.injEq] at h
   obtain ⟨rfl, rfl⟩ := h
   simp only [if_pos hc]
  ·cases h
 ·cases h
theorem newBoxR_eq {d : Option Tmp} {bt : TypeId} {cs : List T} {t : T} {S' : Store} (h : newBoxR L d bt cs S = some (t, S')) : newBox L d bt cs S = some ⟨t, S', 1⟩ := by
 unfold newBoxR at h
 unfold newBox
 split at h
 ·split at h
  ·rename_i hc
   simp only [Option.some.injEq, Prod.mk.injEq] at h
   obtain ⟨rfl, rfl⟩ := h
   simp only [if_pos hc]
  ·cases h
 ·cases h
theorem appR_eq {d : Option Tmp} {ty e : TypeId} {sz : Nat} {a b t : T} {S' : Store} (hel : elemT P ty = some (e, sz)) (hz : (zeroT P e).isSome = true) (h : appR om L d S e sz a b = some (t, S')) : ∃ e', appendT P om L d S ty ty a b = some ⟨t, S', e'⟩ := by
 unfold appR at h
 split at h
 ·rename_i sy ys f hely
  split at h
  ·rename_i hsy
   unfold appendT
   rw [if_neg (by simp)]
   simp only [hel, hely, if_pos (And.intro hsy hz)]
   split at h
   ·split at h
    ·rename_i hem
     simp only [Option.some.injEq, Prod.mk.injEq] at h
     obtain ⟨rfl, rfl⟩ := h
     exact ⟨f, by simp only [if_pos hem]⟩
    ·rename_i hem
     split at h
     ·rename_i hmx
      exact ⟨1, by simp only [if_neg hem, if_pos hmx]; exact newArrR_eq h⟩
     ·cases h
   ·split at h
    ·rename_i hS
     split at h
     ·rename_i hg
      split at h
      ·rename_i hem
       simp only [Option.some.injEq, Prod.mk.injEq] at h
       obtain ⟨rfl, rfl⟩ := h
       exact ⟨1, by simp only [hS, if_pos hg, if_pos hem]⟩
      ·rename_i hem
       split at h
       ·rename_i hq
        simp only [Option.some.injEq, Prod.mk.injEq] at h
        obtain ⟨rfl, rfl⟩ := h
        exact ⟨2, by simp only [hS, if_pos hg, if_neg hem, if_pos hq]⟩
       ·cases h
     ·cases h
    ·cases h
   ·cases h
  ·cases h
 ·cases h
theorem ustrR_eq {pt e : TypeId} {a b t : T} {S' : Store} (hu : P.underlying pt = some (.pointer e)) (hc : P.cellsOf e = 1) (h : ustrR e S a b = some (t, S')) : ustrT P S pt a b = some (t, S') := by
 unfold ustrR at h
 split at h
 ·exact h
 ·split at h
  ·rename_i hS
   split at h
   ·rename_i hq
    obtain ⟨h1, h2, h3, h4, h5, h6, h7⟩ := hq
    simp only [ustrT, hu, hS]
    rw [if_pos ⟨h1, h2, h3, h4, h5, h6, hc, h7⟩]
    exact h
   ·cases h
  ·cases h
 ·cases h
theorem toX_sound {x : X} (hx : toX P o = some x) {t : T} {S' : Store} (h : evX call om L o.dst s S x = some (t, S')) : ∃ e, evalOp P call om L o s S = some ⟨t, S', e⟩ := by
 unfold toX at hx
 split at hx <;> rename_i hop
 ·
  simp only [Option.some.injEq] at hx; subst hx
  simp only [evX, Option.map_eq_some_iff, Prod.mk.injEq] at h
  obtain ⟨u, hu, rfl, rfl⟩ := h
  exact ⟨0, by unfold evalOp; rw [ruleA_not (by rw [hop]; rfl)]; simp only [hop, hu, Option.map_some]⟩
 ·simp only [Option.some.injEq] at hx; subst hx
  simp only [evX, Option.map_eq_some_iff, Prod.mk.injEq] at h
  obtain ⟨u, hu, rfl, rfl⟩ := h
  exact ⟨0, by unfold evalOp; rw [ruleA_not (by rw [hop]; rfl)]; simp only [hop, hu, Option.map_some]⟩
 ·
  simp only [Option.some.injEq] at hx; subst hx
  simp only [evX] at h
  split at h
  ·rename_i q x y hq hx hy
   simp only [Option.some.injEq, Prod.mk.injEq] at h
   obtain ⟨rfl, rfl⟩ := h
   exact ⟨0, by unfold evalOp; rw [ruleA_not (by rw [hop]; rfl)]; simp only [hop, hq, hx, hy]⟩
  ·cases h
 ·
  rename_i op ty x y ty2
  have bins : ∀ v, evX call om L o.dst s S (.bin op x y) = some v → ∃ e, evalOp P call om L o s S = some ⟨v.1, v.2, e⟩ := by
   intro v h
   simp only [evX] at h
   split at h
   ·rename_i a b ha hb
    simp only [Option.map_eq_some_iff] at h
    obtain ⟨u, hu, rfl⟩ := h
    refine ⟨0, evalOp_ruleA (ruleA_intro (by rw [hop]; rfl) (fun z hz => ?_) ?_ (binS_sc hu))⟩
    ·rw [hop] at hz
     simp only [Op.operands] at hz
     rcases (by simpa using hz : z = x ∨ z = y) with rfl | rfl
     ·exact ev_sc ha
     ·exact ev_sc hb
    ·simp only [execOp, hop, (isScO_of ha).2, (isScO_of hb).2]
     refine pure_value ?_
     rw [pureRun_bind, guard_pure]
     ·exact binS_run hu
     ·unfold binS at hu
      split at hu
      ·exact .inl ⟨_, _, rfl⟩
      ·exact .inr (.inl ⟨_, rfl⟩)
      ·cases hu
   ·cases h
  split at hx
  ·rename_i hu
   have beqs : ∀ ne : Bool, op = (bif ne then .neq else .eql) → evX call om L o.dst s S (.beq ne x y) = some (t, S') → ∃ e, evalOp P call om L o s S = some ⟨t, S', e⟩ := by
    intro ne hne h
    simp only [evX] at h
    split at h
    ·rename_i a b ha hb
     simp only [Option.some.injEq, Prod.mk.injEq] at h
     obtain ⟨rfl, rfl⟩ := h
     refine ⟨0, evalOp_ruleA (ruleA_intro (by rw [hop]; rfl) (fun z hz => ?_) ?_ rfl)⟩
     ·rw [hop] at hz
      simp only [Op.operands] at hz
      rcases (by simpa using hz : z = x ∨ z = y) with rfl | rfl
      ·exact ev_sc ha
      ·exact ev_sc hb
     ·simp only [execOp, hop, (isScO_of ha).2, (isScO_of hb).2]
      refine pure_value ?_
      rw [pureRun_bind, guard_pure (.inr (.inr ⟨_, rfl⟩))]
      have he : pureRun P (Op.equal ty (.bool a) (.bool b)) = some (a == b) := by
       have hd : ∀ d, pureRun P (Op.equalIn (d + 1) ty (.bool a) (.bool b)) = some (a == b) := fun d => by
        rw [Op.equalIn, pureRun_bind, pureRun_underlying hu]
        rfl
       exact hd _
      subst hne
      cases ne
      ·simp only [cond_false, binOp, Option.bind_some, pureRun_bind, he]; rfl
      ·simp only [cond_true, binOp, Option.bind_some, pureRun_bind, he]; rfl
    ·cases h
   split at hx
   ·simp only [Option.some.injEq] at hx; subst hx; exact beqs false rfl h
   ·simp only [Option.some.injEq] at hx; subst hx; exact beqs true rfl h
   ·cases hx
  ·simp only [Option.some.injEq] at hx; subst hx; exact bins _ h
  ·simp only [Option.some.injEq] at hx; subst hx; exact bins _ h
  ·rename_i te hu
   split at hx
   ·rename_i hi
    have opq : ∀ z ∈ o.op.operands, z = x ∨ z = y := fun z hz => by
     rw [hop] at hz
     simp only [Op.operands] at hz
     simpa using hz
    have peqs : ∀ ng : Bool, op = (bif ng then .neq else .eql) → evX call om L o.dst s S (.peq ng x y) = some (t, S') → ∃ e, evalOp P call om L o s S = some ⟨t, S', e⟩ := by
     intro ng hne h
     simp only [evX] at h
     split at h
     ·rename_i a b ha hb
      simp only [Option.map_eq_some_iff, Prod.mk.injEq] at h
      obtain ⟨r, hr, rfl, rfl⟩ := h
      unfold peqR at hr
      split at hr
      ·simp only [Option.some.injEq] at hr
       subst hr
       refine ⟨0, evalOp_ruleA (ruleA_intro (by rw [hop]; rfl) (fun z hz => ?_) ?_ rfl)⟩
       ·rcases opq z hz with rfl | rfl
        ·exact ev_sc ha
        ·exact ev_sc hb
       ·simp only [execOp, hop, (isScO_of ha).2, (isScO_of hb).2]
        refine pure_value ?_
        have hgd : pureRun P (eqGuard op ty x y (.pointer none) (.pointer none)) = some () := by unfold eqGuard; cases op <;> rfl
        rw [pureRun_bind, hgd]
        have he : pureRun P (Op.equal ty (.pointer none) (.pointer none)) = some true := by
         have hd : ∀ d, pureRun P (Op.equalIn (d + 1) ty (.pointer none) (.pointer none)) = some true := fun d => by
          rw [Op.equalIn, pureRun_bind, pureRun_underlying hu]
          rfl
         exact hd _
        subst hne
        cases ng
        ·simp only [cond_false, binOp, Option.bind_some, pureRun_bind, he]; rfl
        ·simp only [cond_true, binOp, Option.bind_some, pureRun_bind, he]; rfl
      ·have hmiss : ruleA P o s = none := by
        have : isScO s x = false ∨ isScO s y = false := by
         unfold ptrEq at hr
         split at hr <;> first | (cases hr; done) | (left; simp [isScO, ha]; done) | (right; simp [isScO, hb]; done)
        rcases this with h | h
        ·exact ruleA_miss (x := x) (by rw [hop]; simp [Op.operands]) h
        ·exact ruleA_miss (x := y) (by rw [hop]; simp [Op.operands]) h
       refine ⟨0, ?_⟩
       unfold evalOp
       rw [hmiss]
       subst hne
       cases ng <;> simp [hop, ha, hb, peqT, hu, hi, hr]
     ·cases h
    split at hx
    ·simp only [Option.some.injEq] at hx; subst hx; exact peqs false rfl h
    ·simp only [Option.some.injEq] at hx; subst hx; exact peqs true rfl h
    ·cases hx
   ·cases hx
  ·cases hx
 ·
  rename_i op ty x
  split at hx
  ·simp only [Option.some.injEq] at hx; subst hx
   simp only [evX] at h
   split at h
   ·rename_i a ha
    simp only [Option.some.injEq, Prod.mk.injEq] at h
    obtain ⟨rfl, rfl⟩ := h
    refine ⟨0, evalOp_ruleA (ruleA_intro (by rw [hop]; rfl) (fun z hz => ?_) ?_ rfl)⟩
    ·rw [hop] at hz
     simp only [Op.operands] at hz
     obtain rfl := (by simpa using hz : z = x)
     exact ev_sc ha
    ·simp only [execOp, hop, (isScO_of ha).2]; exact pure_value rfl
   ·cases h
  ·simp only [Option.some.injEq] at hx; subst hx
   simp only [evX] at h
   split at h
   ·rename_i k a ha
    simp only [Option.some.injEq, Prod.mk.injEq] at h
    obtain ⟨rfl, rfl⟩ := h
    refine ⟨0, evalOp_ruleA (ruleA_intro (by rw [hop]; rfl) (fun z hz => ?_) ?_ rfl)⟩
    ·rw [hop] at hz
     simp only [Op.operands] at hz
     obtain rfl := (by simpa using hz : z = x)
     exact ev_sc ha
    ·simp only [execOp, hop, (isScO_of ha).2]; exact pure_value rfl
   ·cases h
  ·cases hx
 ·
  rename_i src dst x
  have opx : o.op.operands = #[x] := by rw [hop]; rfl
  split at hx
  ·rename_i k0 k hs hd
   simp only [Option.some.injEq] at hx; subst hx
   simp only [evX] at h
   split at h
   ·rename_i k1 a ha
    simp only [Option.some.injEq, Prod.mk.injEq] at h
    obtain ⟨rfl, rfl⟩ := h
    refine ⟨0, evalOp_ruleA (ruleA_intro (by rw [hop]; rfl) (fun z hz => ?_) ?_ rfl)⟩
    ·rw [opx] at hz
     obtain rfl := (by simpa using hz : z = x)
     exact ev_sc ha
    ·simp only [execOp, hop, (isScO_of ha).2]
     refine pure_value ?_
     simp only [convert, pureRun_bind, pureRun_underlying hs, pureRun_underlying hd, Option.bind_some]
     rfl
   ·cases h
  ·rename_i k0 hs hd
   simp only [Option.some.injEq] at hx; subst hx
   simp only [evX] at h
   split at h
   ·rename_i k1 a ha
    simp only [Option.some.injEq, Prod.mk.injEq] at h
    obtain ⟨rfl, rfl⟩ := h
    refine ⟨0, evalOp_ruleA (ruleA_intro (by rw [hop]; rfl) (fun z hz => ?_) ?_ rfl)⟩
    ·rw [opx] at hz
     obtain rfl := (by simpa using hz : z = x)
     exact ev_sc ha
    ·simp only [execOp, hop, (isScO_of ha).2]
     refine pure_value ?_
     simp only [convert, pureRun_bind, pureRun_underlying hs, pureRun_underlying hd, Option.bind_some]
     rfl
   ·cases h
  ·rename_i e hs hd
   split at hx
   ·rename_i he hsz
    simp only [Option.some.injEq] at hx; subst hx
    simp only [evX] at h
    split at h
    ·rename_i b hb
     simp only [Option.some.injEq, Prod.mk.injEq] at h
     obtain ⟨rfl, rfl⟩ := h
     refine ⟨1, ?_⟩
     unfold evalOp
     rw [ruleA_halt]
     ·simp only [hop, hb, convT, hs, hd, he, hsz, if_true]
     ·simp only [execOp, hop, (isScO_of hb).2]
      refine pure_halt ?_
      simp only [convert, pureRun_bind, pureRun_underlying hs, pureRun_underlying hd, pureRun_underlying he, Option.bind_some]
      rfl
    ·cases h
   ·cases hx
  ·rename_i e hs hd
   split at hx
   ·rename_i he
    simp only [Option.some.injEq] at hx; subst hx
    simp only [evX] at h
    split at h
    ·rename_i y hy
     cases hb : b2sR S y with
     | none => simp [hb] at h
     | some u =>
      simp only [hb, Option.map_some, Option.some.injEq, Prod.mk.injEq] at h
      obtain ⟨rfl, rfl⟩ := h
      unfold b2sR at hb
      split at hb
      ·rename_i xs f hel
       cases hbv : bytesV xs with
       | none => simp [hbv] at hb
       | some bs =>
        simp only [hbv, Option.map_some, Option.some.injEq] at hb
        subst hb
        refine ⟨f, ?_⟩
        unfold evalOp
        rw [ruleA_miss (x := x) (by rw [opx]; simp)]
        ·simp only [hop, hy, convT, hs, hd, he, hel, hbv, Option.map_some]
        ·unfold isScO
         rw [hy]
         unfold elemsOf at hel
         split at hel <;> first | rfl | (simp at hel)
      ·rename_i xs f hel
       simp only [Option.some.injEq] at hb
       subst hb
       have hn : ∃ n c, y = .sc (.slice none n c) := by
        unfold elemsOf at hel
        split at hel
        ·simp at hel
        ·split at hel
         ·split at hel <;> simp at hel
         ·simp at hel
        ·exact ⟨_, _, rfl⟩
        ·simp at hel
       obtain ⟨n, cc, rfl⟩ := hn
       refine ⟨0, evalOp_ruleA (ruleA_intro (by rw [hop]; rfl) (fun z hz => ?_) ?_ rfl)⟩
       ·rw [opx] at hz
        obtain rfl := (by simpa using hz : z = x)
        unfold isScO
        rw [hy]
       ·have hsv : scV s x = .slice none n cc := by unfold scV; rw [hy]
        simp only [execOp, hop, hsv]
        refine pure_value ?_
        simp only [convert, pureRun_bind, pureRun_underlying hs, pureRun_underlying hd, pureRun_underlying he, Option.bind_some]
        rfl
      ·cases hb
    ·cases h
   ·cases hx
  ·rename_i t0 hs hd
   split at hx
   ·rename_i n hn
    split at hx
    ·cases hx
    ·rename_i hn0
     simp only [Option.some.injEq] at hx; subst hx
     simp only [evX] at h
     split at h
     ·rename_i y hy
      simp only [Option.map_eq_some_iff, Prod.mk.injEq] at h
      obtain ⟨u, hu, rfl, rfl⟩ := h
      unfold toUR at hu
      split at hu
      ·rename_i l off
       split at hu
       ·rename_i bt cs hS
        split at hu
        ·rename_i hc
         simp only [Option.some.injEq] at hu; subst hu
         exact ⟨1, by unfold evalOp; rw [ruleA_miss (x := x) (by rw [opx]; simp) (by simp [isScO, hy])]; simp only [hop, hy, convT, hs, hd, hS, hn]; rw [if_pos ⟨hn0, hc⟩]⟩
        ·cases hu
       ·cases hu
      ·cases hu
     ·cases h
   ·cases hx
  ·rename_i t0 hs hd
   split at hx
   ·rename_i n hn
    simp only [Option.some.injEq] at hx; subst hx
    simp only [evX] at h
    split at h
    ·rename_i y hy
     simp only [Option.map_eq_some_iff, Prod.mk.injEq] at h
     obtain ⟨u, hu, rfl, rfl⟩ := h
     unfold ofUR at hu
     split at hu
     ·rename_i l off
      split at hu
      ·rename_i bt cs hS
       split at hu
       ·rename_i hc
        simp only [Option.some.injEq] at hu; subst hu
        obtain ⟨hbt, rfl, hb6, hpos⟩ := hc
        obtain ⟨v, hv, hcode⟩ := List.mem_map.1 (List.contains_iff_mem.1 hbt)
        have hv := (List.mem_filter.1 hv).2
        simp only [Bool.and_eq_true, Nat.blt_eq] at hv
        obtain ⟨_, hv0, hv6, hvl⟩ := hv
        have hvb : v = bt ∧ P.cellsOf v = cs.length := by
         unfold ofC at hcode
         have hb6 : Nat.blt bt 1000000 = true := by rw [Nat.blt_eq]; exact hb6
         rw [Nat.blt_eq] at hb6
         by_cases e1 : P.cellsOf v = n <;> by_cases e2 : cs.length = n
         ·rw [if_pos e1, if_pos e2] at hcode; exact ⟨hcode, by rw [e1, e2]⟩
         ·rw [if_pos e1, if_neg e2] at hcode
          have hcode : (v : Nat) = bt + 1000000 * cs.length := hcode
          omega
         ·rw [if_neg e1, if_pos e2] at hcode
          have hcode : (v : Nat) + 1000000 * P.cellsOf v = bt := hcode
          omega
         ·rw [if_neg e1, if_neg e2] at hcode
          have hcode : (v : Nat) + 1000000 * P.cellsOf v = bt + 1000000 * cs.length := hcode
          have h1 : (v : Nat) = bt := by omega
          exact ⟨h1, by omega⟩
        obtain ⟨rfl, hcl⟩ := hvb
        have hok : liesAt P P.depth v (cs.length / P.cellsOf v) 0 t0 1 = true := by
         rw [hcl, Nat.div_self hpos]
         exact hvl
        exact ⟨1, by unfold evalOp; rw [ruleA_miss (x := x) (by rw [opx]; simp) (by simp [isScO, hy])]; simp only [hop, hy, convT, hs, hd, hS, hn]; exact if_pos hok⟩
       ·cases hu
      ·cases hu
     ·cases hu
    ·cases h
   ·cases hx
  ·cases hx
 ·
  rename_i ty x i
  split at hx
  ·rename_i hu
   simp only [Option.some.injEq] at hx; subst hx
   simp only [evX] at h
   split at h
   ·rename_i b k n hb hn
    cases hi : idxSR b n with
    | none => simp [hi] at h
    | some u =>
     simp only [hi, Option.map_some, Option.some.injEq, Prod.mk.injEq] at h
     obtain ⟨rfl, rfl⟩ := h
     unfold idxSR at hi
     split at hi
     ·rename_i c hc
      simp only [Option.some.injEq] at hi
      subst hi
      refine ⟨0, evalOp_ruleA (ruleA_intro (by rw [hop]; rfl) (fun z hz => ?_) ?_ rfl)⟩
      ·rw [hop] at hz
       simp only [Op.operands] at hz
       rcases (by simpa using hz : z = x ∨ z = i) with rfl | rfl
       ·exact ev_sc hb
       ·exact ev_sc hn
      ·simp only [execOp, hop, (isScO_of hb).2, (isScO_of hn).2]
       refine pure_value ?_
       simp only [Instr.index, asIntOf, pureRun_bind, pureRun_pure, pureRun_underlying hu, Option.bind_some]
       rw [hc]
       rfl
     ·cases hi
   ·cases h
  ·rename_i len e hu
   split at hx
   ·rename_i sz ag hsz hag
    simp only [Option.some.injEq] at hx; subst hx
    simp only [evX] at h
    split at h
    ·rename_i cs kk m hy hm
     cases hio : idxOk m len with
     | false => rw [hio] at h; cases h
     | true =>
      rw [hio] at h
      simp only [cond_true, Option.map_eq_some_iff, Prod.mk.injEq] at h
      obtain ⟨u, hu2, rfl, rfl⟩ := h
      exact ⟨0, by unfold evalOp; rw [ruleA_miss (x := x) (by rw [hop]; simp [Op.operands]) (by simp [isScO, hy])]; simp only [hop, hu, hy, hm, hsz, hag, hio, cond_true, hu2, Option.map_some]⟩
    ·cases h
   ·cases hx
  ·cases hx
 ·
  rename_i ty x lo hi mx
  split at hx
  ·rename_i hu
   split at hx
   ·simp only [Option.some.injEq] at hx; subst hx
    simp only [evX] at h
    split at h
    ·rename_i b hb
     cases hc : cutSR s b lo hi with
     | none => simp [hc] at h
     | some u =>
      simp only [hc, Option.map_some, Option.some.injEq, Prod.mk.injEq] at h
      obtain ⟨rfl, rfl⟩ := h
      exact ⟨0, evalOp_ruleA (cut_pure hu hop hb hc)⟩
    ·cases h
   ·cases hx
  ·rename_i e hu
   split at hx
   ·rename_i sz hsz
    simp only [Option.some.injEq] at hx; subst hx
    simp only [evX] at h
    split at h
    ·rename_i y hy
     cases hc : slcR sz s S lo hi mx y with
     | none => simp [hc] at h
     | some u =>
      simp only [hc, Option.map_some, Option.some.injEq, Prod.mk.injEq] at h
      obtain ⟨rfl, rfl⟩ := h
      have hel : elemT P ty = some (e, sz) := by simp [elemT, hu, hsz]
      by_cases hnil : ∃ n c, y = .sc (.slice none n c)
      ·obtain ⟨n, c, rfl⟩ := hnil
       simp only [slcR] at hc
       split at hc
       ·rename_i h0
        obtain ⟨⟨rfl, rfl⟩, h0⟩ := h0
        cases lo with
        | some _ => simp at h0
        | none => cases mx with
         | some _ => simp at h0
         | none => cases hi with
          | none => simp at h0
          | some z => exact ⟨0, evalOp_ruleA (slcN_pure hu hsz hop hy hc)⟩
       ·cases hc
      refine ⟨0, ?_⟩
      have hno : isScO s x = false := by
       unfold isScO
       rw [hy]
       unfold slcR at hc
       split at hc <;> first | rfl | (cases hc; done) | exact absurd ⟨_, _, rfl⟩ hnil
      unfold evalOp
      rw [ruleA_miss (x := x) (by rw [hop]; simp [Op.operands]) hno]
      simp only [hop, hy, sliceT, hel]
      unfold slcR at hc
      split at hc
      ·simp only [hc, Option.map_some]
      ·split at hc
       ·rename_i hS; simp only [hS, hc, Option.map_some]
       ·cases hc
      ·exact absurd ⟨_, _, rfl⟩ hnil
      ·cases hc
    ·cases h
   ·cases hx
  ·cases hx
 ·
  rename_i e
  simp only [Option.map_eq_some_iff] at hx
  obtain ⟨z, hz, rfl⟩ := hx
  simp only [evX] at h
  exact ⟨1, by unfold evalOp; rw [ruleA_not (by rw [hop]; rfl)]; simp only [hop, hz]; exact newBoxR_eq h⟩
 ·rename_i e x
  simp only [Option.some.injEq] at hx; subst hx
  simp only [evX] at h
  split at h
  ·rename_i u hu
   exact ⟨1, by unfold evalOp; rw [ruleA_not (by rw [hop]; rfl)]; simp only [hop, hu]; exact newBoxR_eq h⟩
  ·cases h
 ·
  rename_i ty ps
  split at hx
  ·rename_i pl z hp hz
   simp only [Option.some.injEq] at hx; subst hx
   simp only [evX, Option.map_eq_some_iff, Prod.mk.injEq] at h
   obtain ⟨u, hu, rfl, rfl⟩ := h
   exact ⟨0, by unfold evalOp; rw [ruleA_not (by rw [hop]; rfl)]; simp only [hop, buildT, hp, hz, hu, Option.map_some]⟩
  ·cases hx
 ·
  rename_i ty len ps
  split at hx
  ·rename_i e sz hel
   split at hx
   ·rename_i hc
    simp only [Option.some.injEq] at hx; subst hx
    simp only [evX] at h
    split at h
    ·rename_i ts hts
     unfold bslR at h
     split at h
     ·rename_i us S1 hf
      split at h
      ·rename_i hall
       obtain ⟨eff, he⟩ : ∃ eff, bornArr ((om 1000000002).contains (e + 1000000 * L)) L o.dst sz e us S1 (if ts.all closed then 1 else 2) = some ⟨t, S', eff⟩ := by
        unfold bornR at h
        unfold bornArr
        split at h
        ·rename_i hsh
         rw [if_pos hsh]
         simp only [Option.some.injEq, Prod.mk.injEq] at h
         exact ⟨2, by rw [h.1, h.2]⟩
        ·rename_i hsh
         rw [if_neg hsh]
         exact ⟨_, newArrR_eq h⟩
       refine ⟨eff, ?_⟩
       unfold evalOp
       rw [ruleA_not (by rw [hop]; rfl)]
       have hb : ((us.all fun u => decide (u.cells.length = sz)) && (zeroT P e).isSome && decide (sz ≤ 1000)) = true := by simp only [hall, hc.2.1, hc.2.2, decide_true, Bool.and_self]
       simp only [hop, buildSliceT, if_pos hc.1, hel, hts, hf, if_pos hb]
       exact he
      ·cases h
     ·cases h
    ·cases h
   ·cases hx
  ·cases hx
 ·
  rename_i ty a
  split at hx
  ·rename_i ag n hag hn
   simp only [Option.some.injEq] at hx; subst hx
   simp only [evX] at h
   split at h
   ·rename_i y hy
    simp only [Option.map_eq_some_iff, Prod.mk.injEq] at h
    obtain ⟨u, hu, rfl, rfl⟩ := h
    obtain ⟨e, he⟩ := loadR_eq hag hn hu
    exact ⟨e, by unfold evalOp; rw [ruleA_not (by rw [hop]; rfl)]; simp only [hop, hy]; exact he⟩
   ·cases h
  ·cases hx
 ·
  rename_i ty a v
  simp only [Option.map_eq_some_iff] at hx
  obtain ⟨n, hn, rfl⟩ := hx
  simp only [evX] at h
  split at h
  ·rename_i y z hy hz
   simp only [Option.map_eq_some_iff, Prod.mk.injEq] at h
   obtain ⟨u, hu, rfl, rfl⟩ := h
   obtain ⟨e, he⟩ := storeR_eq hn hu
   exact ⟨e, by unfold evalOp; rw [ruleA_not (by rw [hop]; rfl)]; simp only [hop, hy, hz]; exact he⟩
  ·cases h
 ·
  rename_i x
  simp only [Option.some.injEq] at hx; subst hx
  simp only [evX] at h
  split at h
  ·rename_i l off hy
   simp only [Option.some.injEq, Prod.mk.injEq] at h
   obtain ⟨rfl, rfl⟩ := h
   exact ⟨0, by unfold evalOp; rw [ruleA_not (by rw [hop]; rfl)]; simp only [hop, hy]⟩
  ·cases h
 ·
  rename_i f first caps
  split at hx
  ·rename_i h0
   split at hx
   ·rename_i hb
    simp only [Option.some.injEq] at hx; subst hx
    simp only [evX, Option.map_eq_some_iff, Prod.mk.injEq] at h
    obtain ⟨u, hu, rfl, rfl⟩ := h
    exact ⟨0, by unfold evalOp; rw [ruleA_not (by rw [hop]; rfl)]; simp only [hop, if_pos h0, if_pos hb, hu, Option.map_some]⟩
   ·cases hx
  ·rename_i h0
   split at hx
   ·rename_i h1
    simp only [Option.some.injEq] at hx; subst hx
    simp only [evX, Option.map_eq_some_iff, Prod.mk.injEq] at h
    obtain ⟨u, hu, rfl, rfl⟩ := h
    exact ⟨0, by unfold evalOp; rw [ruleA_not (by rw [hop]; rfl)]; simp only [hop, if_neg h0, if_pos h1, hu, Option.map_some]⟩
   ·cases hx
 ·
  rename_i ty l c
  split at hx
  ·rename_i e sz hel
   simp only [Option.map_eq_some_iff] at hx
   obtain ⟨z, hz, rfl⟩ := hx
   simp only [evX] at h
   split at h
   ·rename_i y w hy hw
    unfold mkR at h
    split at h
    ·rename_i k1 n k2 m
     split at h
     ·rename_i hc
      exact ⟨1, by unfold evalOp; rw [ruleA_not (by rw [hop]; rfl)]; simp only [hop, hy, hw, makeT, hel, hz, if_pos hc]; exact newArrR_eq h⟩
     ·cases h
    ·cases h
   ·cases h
  ·cases hx
 ·
  rename_i ty x f
  split at hx
  ·rename_i of_ n ft hf
   split at hx
   ·cases hx
   ·rename_i h0
    simp only [Option.some.injEq] at hx; subst hx
    simp only [evX] at h
    split at h
    ·rename_i y hy
     simp only [Option.map_eq_some_iff, Prod.mk.injEq] at h
     obtain ⟨u, hu, rfl, rfl⟩ := h
     refine ⟨0, ?_⟩
     unfold evalOp
     rw [ruleA_not (by rw [hop]; rfl)]
     simp only [hop, hy, fieldAddrT, hf, if_neg h0]
     unfold faddrR at hu
     split at hu <;> first | (cases hu; done) | (simp only [Option.some.injEq] at hu; subst hu; rfl)
    ·cases h
  ·cases hx
 ·
  rename_i ty x f
  split at hx
  ·rename_i of_ n ft hf
   simp only [Option.map_eq_some_iff] at hx
   obtain ⟨ag, hag, rfl⟩ := hx
   simp only [evX] at h
   split at h
   ·rename_i cs hy
    simp only [Option.map_eq_some_iff, Prod.mk.injEq] at h
    obtain ⟨u, hu, rfl, rfl⟩ := h
    exact ⟨0, by unfold evalOp; rw [ruleA_not (by rw [hop]; rfl)]; simp only [hop, hy, hf, hag, hu, Option.map_some]⟩
   ·cases h
  ·cases hx
 ·
  rename_i ty x i
  split at hx
  ·rename_i e hu
   simp only [Option.map_eq_some_iff] at hx
   obtain ⟨sz, hsz, rfl⟩ := hx
   simp only [evX] at h
   split at h
   ·rename_i y j hy hj
    simp only [Option.map_eq_some_iff, Prod.mk.injEq] at h
    obtain ⟨u, hu', rfl, rfl⟩ := h
    refine ⟨0, ?_⟩
    unfold evalOp
    rw [ruleA_not (by rw [hop]; rfl)]
    unfold iaddrR at hu'
    split at hu'
    ·rename_i k n
     split at hu'
     ·simp only [hop, hy, hj, indexAddrT, hu, hsz, hu', Option.map_some]
     ·split at hu'
      ·rename_i hS
       simp only [hop, hy, hj, indexAddrT, hu, hsz, hS, hu', Option.map_some]
      ·cases hu'
     ·cases hu'
    ·cases hu'
   ·cases h
  ·rename_i len e hu
   simp only [Option.map_eq_some_iff] at hx
   obtain ⟨sz, hsz, rfl⟩ := hx
   simp only [evX] at h
   split at h
   ·rename_i y j hy hj
    simp only [Option.map_eq_some_iff, Prod.mk.injEq] at h
    obtain ⟨u, hu', rfl, rfl⟩ := h
    refine ⟨0, ?_⟩
    unfold evalOp
    rw [ruleA_not (by rw [hop]; rfl)]
    unfold iaddrAR at hu'
    split at hu'
    ·simp only [hop, hy, hj, indexAddrT, hu, hsz, hu', Option.map_some]
    ·cases hu'
   ·cases h
  ·cases hx
 ·
  rename_i x j
  simp only [Option.some.injEq] at hx; subst hx
  simp only [evX] at h
  split at h
  ·rename_i ts hy
   simp only [Option.map_eq_some_iff, Prod.mk.injEq] at h
   obtain ⟨u, hu, rfl, rfl⟩ := h
   exact ⟨0, by unfold evalOp; rw [ruleA_not (by rw [hop]; rfl)]; simp only [hop, hy, hu, Option.map_some]⟩
  ·cases h
 ·
  rename_i c
  have hev : ∀ x, c.args.toList = [x] → ∀ u, ev s x = some u → evL s c.args.toList = some [u] := fun x hx u hu => by rw [hx]; simp [evL, hu]
  have hev2 : ∀ x y, c.args.toList = [x, y] → ∀ u v, ev s x = some u → ev s y = some v → evL s c.args.toList = some [u, v] := fun x y hx u v hu hv => by rw [hx]; simp [evL, hu, hv]
  have nop : ∀ b, c.callee = .builtin b → (b = .append ∨ b = .copy) → plainOp o.op = false := fun b hb hh => by
   rw [hop]; obtain ⟨ce, ar, at_⟩ := c; simp only at hb; subst hb; rcases hh with rfl | rfl <;> rfl
  have yop : ∀ b, c.callee = .builtin b → (b = .len ∨ b = .min ∨ b = .max ∨ b = .cap) → plainOp o.op = true := fun b hb hh => by
   rw [hop]; obtain ⟨ce, ar, at_⟩ := c; simp only at hb; subst hb; rcases hh with rfl | rfl | rfl | rfl <;> rfl
  have opb : ∀ b, c.callee = .builtin b → o.op.operands = c.args := fun b hb => by
   rw [hop]; simp only [Op.operands, Call.operands, hb]; simp
  split at hx
  ·rename_i x ty hb ha ht
   have ht' : c.argTypes = #[ty] := Array.toList_inj.1 ht
   have ha' : c.args = #[x] := Array.toList_inj.1 ha
   have memx : ∀ z ∈ o.op.operands, z = x := fun z hz => by rw [opb _ hb, ha'] at hz; simpa using hz
   split at hx
   ·rename_i hu
    simp only [Option.some.injEq] at hx; subst hx
    simp only [evX] at h
    split at h
    ·rename_i b hbs
     simp only [Option.some.injEq, Prod.mk.injEq] at h
     obtain ⟨rfl, rfl⟩ := h
     refine ⟨0, evalOp_ruleA (ruleA_intro (yop _ hb (.inl rfl)) (fun z hz => by rw [memx z hz]; exact ev_sc hbs) ?_ rfl)⟩
     obtain ⟨k, hk⟩ := builtin_pure (P := P) (ρ := scV s) hop hb
     rw [hk, ha', ht']
     refine pure_value ?_
     simp only [Builtin.len_, List.map_toArray, List.map_cons, List.map_nil, (isScO_of hbs).2]
     simp only [List.getElem?_toArray, List.getElem?_cons_zero, pureRun_bind, pureRun_underlying hu, Option.bind_some]
     rfl
    ·cases h
   ·rename_i e hu
    simp only [Option.map_eq_some_iff] at hx
    obtain ⟨sz, hsz, rfl⟩ := hx
    have hel : elemT P ty = some (e, sz) := by simp [elemT, hu, hsz]
    simp only [evX] at h
    split at h
    ·rename_i sz' xs hy
     simp only [Option.some.injEq, Prod.mk.injEq] at h
     obtain ⟨rfl, rfl⟩ := h
     refine ⟨0, ?_⟩
     unfold evalOp
     rw [ruleA_miss (x := x) (by rw [opb _ hb, ha']; simp) (by simp [isScO, hy])]
     simp only [hop, hb, hev x ha _ hy, ht, hel, Option.map_some]
    ·rename_i l g off len hy
     simp only [Option.some.injEq, Prod.mk.injEq] at h
     obtain ⟨rfl, rfl⟩ := h
     refine ⟨0, ?_⟩
     unfold evalOp
     rw [ruleA_miss (x := x) (by rw [opb _ hb, ha']; simp) (by simp [isScO, hy])]
     simp only [hop, hb, hev x ha _ hy, ht, hel, Option.map_some]
    ·rename_i n cp hy
     split at h
     ·rename_i h0
      simp only [Option.some.injEq, Prod.mk.injEq] at h
      obtain ⟨rfl, rfl⟩ := h
      refine ⟨0, evalOp_ruleA (ruleA_intro (yop _ hb (.inl rfl)) (fun z hz => by rw [memx z hz]; exact ev_sc hy) ?_ rfl)⟩
      obtain ⟨k, hk⟩ := builtin_pure (P := P) (ρ := scV s) hop hb
      rw [hk, ha', ht']
      refine pure_value ?_
      simp only [Builtin.len_, List.map_toArray, List.map_cons, List.map_nil, (isScO_of hy).2]
      simp only [List.getElem?_toArray, List.getElem?_cons_zero, pureRun_bind, pureRun_underlying hu, Option.bind_some, h0.1]
      rfl
     ·cases h
    ·cases h
   ·cases hx
  ·rename_i x ty hb ha ht
   have ht' : c.argTypes = #[ty] := Array.toList_inj.1 ht
   have ha' : c.args = #[x] := Array.toList_inj.1 ha
   have memx : ∀ z ∈ o.op.operands, z = x := fun z hz => by rw [opb _ hb, ha'] at hz; simpa using hz
   split at hx
   ·rename_i e hu
    simp only [Option.map_eq_some_iff] at hx
    obtain ⟨sz, hsz, rfl⟩ := hx
    simp only [evX] at h
    split at h
    ·rename_i n cp hy
     split at h
     ·rename_i h0
      simp only [Option.some.injEq, Prod.mk.injEq] at h
      obtain ⟨rfl, rfl⟩ := h
      refine ⟨0, evalOp_ruleA (ruleA_intro (yop _ hb (.inr (.inr (.inr rfl)))) (fun z hz => by rw [memx z hz]; exact ev_sc hy) ?_ rfl)⟩
      obtain ⟨k, hk⟩ := builtin_pure (P := P) (ρ := scV s) hop hb
      rw [hk, ha', ht']
      refine pure_value ?_
      simp only [Builtin.cap_, List.map_toArray, List.map_cons, List.map_nil, (isScO_of hy).2]
      simp only [List.getElem?_toArray, List.getElem?_cons_zero, pureRun_bind, pureRun_underlying hu, Option.bind_some, h0.2]
      rfl
     ·cases h
    ·cases h
   ·cases hx
  ·rename_i x y hb ha
   simp only [Option.some.injEq] at hx; subst hx
   have ha' : c.args = #[x, y] := Array.toList_inj.1 ha
   simp only [evX] at h
   split at h
   ·rename_i k a k' b hxa hyb
    simp only [Option.some.injEq, Prod.mk.injEq] at h
    obtain ⟨rfl, rfl⟩ := h
    refine ⟨0, evalOp_ruleA (ruleA_intro (yop _ hb (.inr (.inl rfl))) (fun z hz => ?_) ?_ rfl)⟩
    ·rw [opb _ hb, ha'] at hz
     rcases (by simpa using hz : z = x ∨ z = y) with rfl | rfl
     ·exact ev_sc hxa
     ·exact ev_sc hyb
    ·obtain ⟨q, hk⟩ := builtin_pure (P := P) (ρ := scV s) hop hb
     rw [hk, ha']
     refine pure_value ?_
     simp only [Builtin.min_, List.map_toArray, List.map_cons, List.map_nil, (isScO_of hxa).2, (isScO_of hyb).2]
     rfl
   ·cases h
  ·rename_i x y hb ha
   simp only [Option.some.injEq] at hx; subst hx
   have ha' : c.args = #[x, y] := Array.toList_inj.1 ha
   simp only [evX] at h
   split at h
   ·rename_i k a k' b hxa hyb
    simp only [Option.some.injEq, Prod.mk.injEq] at h
    obtain ⟨rfl, rfl⟩ := h
    refine ⟨0, evalOp_ruleA (ruleA_intro (yop _ hb (.inr (.inr (.inl rfl)))) (fun z hz => ?_) ?_ rfl)⟩
    ·rw [opb _ hb, ha'] at hz
     rcases (by simpa using hz : z = x ∨ z = y) with rfl | rfl
     ·exact ev_sc hxa
     ·exact ev_sc hyb
    ·obtain ⟨q, hk⟩ := builtin_pure (P := P) (ρ := scV s) hop hb
     rw [hk, ha']
     refine pure_value ?_
     simp only [Builtin.max_, List.map_toArray, List.map_cons, List.map_nil, (isScO_of hxa).2, (isScO_of hyb).2]
     rfl
   ·cases h
  ·rename_i x y ty u hb ha ht
   split at hx
   ·rename_i e sz hel
    split at hx
    ·rename_i hc
     simp only [Option.some.injEq] at hx; subst hx
     simp only [evX] at h
     split at h
     ·rename_i a b hxa hyb
      obtain ⟨rfl, hz⟩ := hc
      obtain ⟨e', he'⟩ := appR_eq hel hz h
      have fin : (∀ q, b ≠ .sc (.string q)) → (∀ k n, b ≠ .sc (.int k n)) → ∃ e, evalOp P call om L o s S = some ⟨t, S', e⟩ := by
       intro hq hq2
       refine ⟨e', ?_⟩
       unfold evalOp
       rw [ruleA_not (nop _ hb (.inl rfl))]
       simp only [hop, hb, hev2 x y ha _ _ hxa hyb, ht]
       exact he'
      by_cases hq : ∃ q, b = .sc (.string q)
      ·obtain ⟨q, rfl⟩ := hq
       simp [appR, elemsOf] at h
      ·refine fin (fun q hq' => hq ⟨q, hq'⟩) fun k n hn => ?_
       subst hn
       simp [appR, elemsOf] at h
     ·cases h
    ·split at hx
     ·rename_i hus
      split at hx
      ·rename_i hc
       obtain ⟨rfl, hz⟩ := hc
       simp only [Option.some.injEq] at hx; subst hx
       simp only [evX] at h
       split at h
       ·rename_i a b hxa hyb
        obtain ⟨e', he'⟩ := appR_eq hel hz h
        refine ⟨e', ?_⟩
        unfold evalOp
        rw [ruleA_not (nop _ hb (.inl rfl))]
        simp only [hop, hb, hev2 x y ha _ _ hxa hyb, ht, appendS, hus, hel]
        exact he'
       ·cases h
      ·cases hx
     ·rename_i ki hus
      simp only [Option.map_eq_some_iff] at hx
      obtain ⟨z, hz, rfl⟩ := hx
      simp only [evX] at h
      split at h
      ·rename_i m1 m2 kk n hxa hyb
       split at h
       ·rename_i hn
        obtain ⟨e', he'⟩ : ∃ e', newArr L o.dst sz e (List.replicate n.toNat z) S e' = some ⟨t, S', e'⟩ := ⟨1, newArrR_eq h⟩
        refine ⟨1, ?_⟩
        unfold evalOp
        rw [ruleA_not (nop _ hb (.inl rfl))]
        simp only [hop, hb, hev2 x y ha _ _ hxa hyb, ht, appendZ, hus, hel, hz]
        rw [if_pos hn]
        exact newArrR_eq h
       ·cases h
      ·cases h
     ·cases hx
   ·cases hx
  ·rename_i x hb ha
   simp only [Option.some.injEq] at hx; subst hx
   simp only [evX] at h
   split at h
   ·rename_i y hy
    simp only [Option.map_eq_some_iff, Prod.mk.injEq] at h
    obtain ⟨u, hu, rfl, rfl⟩ := h
    exact ⟨1, by unfold evalOp; rw [ruleA_not (by rw [hop]; obtain ⟨ce, ar, at_⟩ := c; simp only at hb; subst hb; rfl)]; simp only [hop, hb, hev x ha _ hy, hu, Option.map_some]⟩
   ·cases h
  ·rename_i x y pt u hb ha ht
   split at hx
   ·rename_i e hu
    split at hx
    ·rename_i hco
     simp only [Option.some.injEq] at hx; subst hx
     simp only [evX] at h
     split at h
     ·rename_i a b hxa hyb
      have := ustrR_eq hu hco h
      exact ⟨2, by unfold evalOp; rw [ruleA_not (by rw [hop]; obtain ⟨ce, ar, at_⟩ := c; simp only at hb; subst hb; rfl)]; simp only [hop, hb, hev2 x y ha _ _ hxa hyb, ht, this, Option.map_some]⟩
     ·cases h
    ·cases hx
   ·cases hx
  ·rename_i x y ty u hb ha ht
   split at hx
   ·rename_i e sz hel
    split at hx
    ·rename_i hsz
     subst hsz
     simp only [Option.some.injEq] at hx; subst hx
     simp only [evX] at h
     split at h
     ·rename_i a b hxa hyb
      have key : copyT P S ty a b = some ⟨t, S', 2⟩ := by
       unfold cpyR at h
       unfold copyT
       split at h
       ·rename_i sy ys f hely
        simp only [hel, hely]
        split at h
        ·split at h
         ·rename_i hS
          split at h
          ·rename_i hc
           simp only [Option.some.injEq, Prod.mk.injEq] at h
           obtain ⟨rfl, rfl⟩ := h
           obtain ⟨rfl, rfl, rfl, h4, h5⟩ := hc
           simp only [hS, h4, h5, and_self, if_true]
          ·cases h
         ·cases h
        ·cases h
       ·cases h
      refine ⟨2, ?_⟩
      unfold evalOp
      rw [ruleA_not (nop _ hb (.inr rfl))]
      simp only [hop, hb, hev2 x y ha _ _ hxa hyb, ht]
      exact key
     ·cases h
    ·cases hx
   ·cases hx
  ·rename_i f hb
   split at hx
   ·rename_i hne
    split at hx
    ·rename_i x ha
     simp only [Option.some.injEq] at hx; subst hx
     simp only [evX] at h
     split at h
     ·rename_i l off hy
      simp only [Option.some.injEq, Prod.mk.injEq] at h
      obtain ⟨rfl, rfl⟩ := h
      refine ⟨0, ?_⟩
      have hf : ∃ t, ev s f = some t := by
       unfold isNoEscO at hne
       split at hne
       ·exact ⟨_, rfl⟩
       ·cases hne
      obtain ⟨t, hf⟩ := hf
      unfold evalOp
      rw [ruleA_not (by rw [hop]; obtain ⟨ce, ar, at_⟩ := c; simp only at hb; subst hb; rfl)]
      simp only [hop, hb, hev x ha _ hy, hf, hne, cond_true]
     ·cases h
    ·cases hx
   ·rename_i hne
    simp only [Option.some.injEq] at hx; subst hx
    simp only [evX] at h
    split at h
    ·rename_i g as hg has
     unfold callR at h
     simp only [Option.map_eq_some_iff, Prod.mk.injEq] at h
     obtain ⟨re, hre, rfl, rfl⟩ := h
     refine ⟨re.eff, ?_⟩
     unfold evalOp
     rw [ruleA_not (by rw [hop]; obtain ⟨ce, ar, at_⟩ := c; simp only at hb; subst hb; rfl)]
     have hne' : isNoEscO P f = false := by simpa using hne
     simp only [hop, hb, has, hg, hne', cond_false]
     exact hre
    ·cases h
  ·cases hx
 ·cases hx
theorem toXd_sound {t : T} {S' : Store} (h : evX call om L o.dst s S (toXd P o) = some (t, S')) : ∃ e, evalOp P call om L o s S = some ⟨t, S', e⟩ := by
 unfold toXd at h
 cases hx : toX P o with
 | none => rw [hx] at h; cases h
 | some x => rw [hx] at h; exact toX_sound hx h
theorem toX1_sound {x : X} (hx : toX1 P o = some x) {t : T} {S' : Store} (h : evX call om L o.dst s S x = some (t, S')) : ∃ e, evalOp P call om L o s S = some ⟨t, S', e⟩ := by
 simp only [toX1, Option.some.injEq] at hx
 subst hx
 exact toXd_sound h
end
end Go.TM
