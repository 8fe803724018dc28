/- The fast evaluator is sound: what an operation of a drawn region looks at. -/
import Derived.Test.YtgmclgajlofljaaGreatDoorTmKd
set_option linter.all false
namespace Go.TM
open Go
section
variable {D W : LSet} {S Y : Store}
theorem over_same (hA : ∀ l ∈ D, Y l = S l) (hW : ∀ l ∈ W, l ∈ D) : over W S Y = Y := by
 funext l; unfold over; split
 ·rename_i h; exact (hA l (hW l h)).symm
 ·rfl
theorem over_upd (hA : ∀ l ∈ D, Y l = S l) (hW : ∀ l ∈ W, l ∈ D) {l : Loc} (h : l ∈ W) (o : Obj) : over W (upd S l o) Y = upd Y l o := by
 funext m; unfold over upd
 by_cases hm : m = l
 ·subst hm; simp [h]
 ·simp only [if_neg hm]
  split
  ·rename_i h2; exact (hA m (hW m h2)).symm
  ·rfl
theorem over_setRo (hA : ∀ l ∈ D, Y l = S l) (hW : ∀ l ∈ W, l ∈ D) {l : Loc} (h : l ∈ W) : over W (setRo S [l]) Y = setRo Y [l] := by
 funext m; unfold over
 split
 ·rename_i h2
  unfold setRo; rw [hA m (hW m h2)]
 ·rename_i h2
  have : ¬ m = l := fun e => h2 (e ▸ h)
  unfold setRo
  cases Y m with
  | none => rfl
  | some o => cases o <;> simp [this]
def pureX : X → Bool
 | .mv _ | .pick _ _ _ | .bin _ _ _ | .beq _ _ _ | .not _ | .neg _ | .lenS _ | .idxS _ _ | .cutS _ _ _ | .cv _ _ | .i2s _ | .mm _ _ _ | .len _ | .capn _ | .faddr _ _ | .field _ _ _ _ | .iaddrA _ _ _ _ | .aidx _ _ _ _ _ | .bld _ _ _ | .s2b _ | .mkf _ _ | .ext _ _ | .nck _ | .peq _ _ _ => true
 | _ => false
theorem pure_ev {cF : CallF} {om : FuncId → List Nat} {L : Nat} {d : Option Nat} {s : Slots} {x : X} (hx : pureX x = true) (S Y : Store) : evX cF om L d s Y x = (evX cF om L d s S x).map fun p => (p.1, Y) := by
 cases x <;> simp only [pureX, Bool.false_eq_true] at hx <;> simp only [evX]
 case pick c a b => split <;> simp
 case bin op a b => split <;> first | rfl | (rw [Option.map_map]; rfl)
 case beq ne a b => split <;> simp
 case not a => split <;> simp
 case neg a => split <;> simp
 case lenS a => split <;> simp
 case idxS a b => split <;> first | rfl | (rw [Option.map_map]; rfl)
 case cutS a b c => split <;> first | rfl | (rw [Option.map_map]; rfl)
 case cv k a => split <;> simp
 case i2s a => split <;> simp
 case mm mx a b => split <;> simp
 case len a => split <;> (try simp) <;> (try (split <;> simp))
 case capn a => split <;> (try simp) <;> (try (split <;> simp))
 case faddr o a => split <;> first | rfl | (rw [Option.map_map]; rfl)
 case aidx ag sz n a b =>
  split
  ·cases idxOk _ n with
   | true => simp only [cond_true, Option.map_map]; rfl
   | false => rfl
  ·rfl
 case field o n ag a => split <;> first | rfl | (rw [Option.map_map]; rfl)
 case iaddrA l sz a b => split <;> first | rfl | (rw [Option.map_map]; rfl)
 case bld ps z q => rw [Option.map_map]; rfl
 case s2b a => split <;> simp
 case mkf f cs => rw [Option.map_map]; rfl
 case ext a j => split <;> first | rfl | (rw [Option.map_map]; rfl)
 case nck a => split <;> simp
 case peq ng a b => split <;> first | rfl | (rw [Option.map_map]; rfl)
 case mv a => rw [Option.map_map]; rfl
def AtD (D : LSet) : T → Prop
 | .own l _ _ _ | .ptr l _ | .aptr l _ _ _ => l ∈ D
 | _ => True
theorem loadR_at (hA : ∀ l ∈ D, Y l = S l) {ag : Bool} {n : Nat} {a : T} (h : AtD D a) : loadR ag n Y a = loadR ag n S a := by
 cases a <;> simp only [loadR] <;> rw [hA _ h]
theorem iaddrR_at (hA : ∀ l ∈ D, Y l = S l) {sz : Nat} {x i : T} (h : AtD D x) : iaddrR sz Y x i = iaddrR sz S x i := by
 unfold iaddrR
 split
 ·cases x <;> simp only [] <;> rw [hA _ h]
 ·rfl
theorem slcR_at (hA : ∀ l ∈ D, Y l = S l) {sz : Nat} {s : Slots} {lo hi mx : Option Operand} {x : T} (h : AtD D x) : slcR sz s Y lo hi mx x = slcR sz s S lo hi mx x := by
 cases x with
 | sc v => cases v with
  | slice a n c => cases a <;> rfl
  | _ => rfl
 | own lc g off len => simp only [slcR]; rw [hA _ h]
 | _ => rfl
theorem elemsOf_at (hA : ∀ l ∈ D, Y l = S l) {x : T} (h : AtD D x) : elemsOf Y x = elemsOf S x := by
 cases x with
 | own l g off len => simp only [elemsOf]; rw [hA _ h]
 | sc v => cases v <;> first | rfl | (rename_i a n c; cases a <;> rfl)
 | _ => rfl
theorem usdT_at (hA : ∀ l ∈ D, Y l = S l) {x : T} (h : AtD D x) : usdT Y x = usdT S x := by
 cases x with
 | own l g off len => simp only [usdT]; rw [hA _ h]
 | sc v => cases v <;> first | rfl | (rename_i a n c; cases a <;> rfl)
 | _ => rfl
mutual
def noOwnT : T → Bool
 | .own .. => false
 | .agg cs => noOwnTL cs
 | _ => true
def noOwnTL : List T → Bool
 | [] => true
 | x :: xs => noOwnT x && noOwnTL xs
end
mutual
theorem snap_noOwn (S : Store) : ∀ t : T, noOwnT t = true → snap S t = some (t, [])
 | .own .., h => by simp [noOwnT] at h
 | .agg cs, h => by simp only [noOwnT] at h; simp only [snap, snapL_noOwn S cs h]
 | .undef, _ | .sc _, _ | .lst .., _ | .ptr .., _ | .lptr .., _ | .aptr .., _ | .clo .., _ | .tup _, _ => by simp only [snap]
theorem snapL_noOwn (S : Store) : ∀ ts : List T, noOwnTL ts = true → snapL S ts = some (ts, [])
 | [], _ => by simp only [snapL]
 | x :: xs, h => by
  simp only [noOwnTL, Bool.and_eq_true] at h
  simp only [snapL, snap_noOwn S x h.1, snapL_noOwn S xs h.2, List.append_nil]
end
theorem freeze_noOwn {t : T} (h : noOwnT t = true) (S : Store) : freeze S t = if closed t = true then some (t, S) else none := by
 unfold freeze
 simp only [snap_noOwn S t h, setRo_nil]
theorem freezeL_noOwn : ∀ (ts : List T), noOwnTL ts = true → ∀ S, freezeL S ts = if closedL ts = true then some (ts, S) else none
 | [], _, S => by simp only [freezeL, closedL, if_true]
 | t :: ts, h, S => by
  simp only [noOwnTL, Bool.and_eq_true] at h
  simp only [freezeL, freeze_noOwn h.1, closedL, Bool.and_eq_true]
  by_cases h1 : closed t = true
  ·simp only [h1, if_true, true_and, freezeL_noOwn ts h.2]
   split
   ·rename_i he
    split at he
    ·rename_i h2
     simp only [Option.some.injEq, Prod.mk.injEq] at he
     obtain ⟨rfl, rfl⟩ := he
     rw [if_pos h2]
    ·cases he
   ·rename_i he
    split at he
    ·cases he
    ·rename_i h2; rw [if_neg h2]
  ·simp [h1]
mutual
theorem noOwn_t : ∀ v : V, noOwn v = noOwnT v.t
 | .own l g off n => by simp only [V.t, noOwnT]; rfl
 | .agg cs => by simp only [V.t, noOwnT]; exact noOwnL_t cs
 | .u => by simp only [V.t, noOwnT]; rfl
 | .p c m => by simp only [V.t, noOwnT]; rfl
 | .m c m => by simp only [V.t, noOwnT]; rfl
 | .b q => by simp only [V.t, noOwnT]; rfl
 | .s l m => by simp only [V.t, noOwnT]; rfl
 | .np => by simp only [V.t, noOwnT]; rfl
 | .ns => by simp only [V.t, noOwnT]; rfl
 | .nf => by simp only [V.t, noOwnT]; rfl
 | .ni => by simp only [V.t, noOwnT]; rfl
 | .fn f => by simp only [V.t, noOwnT]; rfl
 | .lst sz xs => by simp only [V.t, noOwnT]; rfl
 | .ptr l off => by simp only [V.t, noOwnT]; rfl
 | .lptr sz xs i off => by simp only [V.t, noOwnT]; rfl
 | .aptr l g i off => by simp only [V.t, noOwnT]; rfl
 | .clo f cs => by simp only [V.t, noOwnT]; rfl
 | .tup cs => by simp only [V.t, noOwnT]; rfl
theorem noOwnL_t : ∀ xs : List V, noOwnL xs = noOwnTL (V.tL xs)
 | [] => by simp only [V.tL, noOwnTL]; rfl
 | x :: xs => by
  simp only [V.tL, noOwnTL]
  show (@Bool.rec (fun _ => Bool) false (noOwnL xs) (noOwn x)) = _
  rw [br_and, noOwn_t x, noOwnL_t xs]
end
mutual
def OwnD (D : LSet) : T → Prop
 | .own l _ _ _ => l ∈ D
 | .agg cs => OwnDL D cs
 | _ => True
def OwnDL (D : LSet) : List T → Prop
 | [] => True
 | x :: xs => OwnD D x ∧ OwnDL D xs
end
mutual
theorem snap_own (hA : ∀ l ∈ D, Y l = S l) : ∀ t : T, OwnD D t → snap Y t = snap S t
 | .own l g off n, h => by simp only [OwnD] at h; simp only [snap, hA l h]
 | .agg cs, h => by simp only [OwnD] at h; simp only [snap, snapL_own hA cs h]
 | .undef, _ | .sc _, _ | .lst .., _ | .ptr .., _ | .lptr .., _ | .aptr .., _ | .clo .., _ | .tup _, _ => by simp only [snap]
theorem snapL_own (hA : ∀ l ∈ D, Y l = S l) : ∀ ts : List T, OwnDL D ts → snapL Y ts = snapL S ts
 | [], _ => by simp only [snapL]
 | x :: xs, h => by
  simp only [OwnDL] at h
  simp only [snapL, snap_own hA x h.1, snapL_own hA xs h.2]
end
theorem snapArgs_own' (om : List Nat) (hA : ∀ l ∈ D, Y l = S l) : ∀ (ts : List T) (j : Nat), OwnDL D ts → snapArgs om Y j ts = snapArgs om S j ts
 | [], _, _ => by simp only [snapArgs]
 | x :: xs, j, h => by
  simp only [OwnDL] at h
  simp only [snapArgs, snap_own hA x h.1, snapArgs_own' om hA xs (j + 1) h.2]
theorem snapArgs_own (hA : ∀ l ∈ D, Y l = S l) : ∀ (ts : List T) (j : Nat), OwnDL D ts → snapArgs [] Y j ts = snapArgs [] S j ts
 | [], _, _ => by simp only [snapArgs]
 | x :: xs, j, h => by
  simp only [OwnDL] at h
  simp only [snapArgs, List.contains_nil, Bool.false_eq_true, if_false, snap_own hA x h.1, snapArgs_own hA xs (j + 1) h.2]
theorem snapArgs_noOwn (S : Store) : ∀ (ts : List T) (j : Nat), noOwnTL ts = true → snapArgs [] S j ts = some (ts, [])
 | [], _, _ => by simp only [snapArgs]
 | x :: xs, j, h => by
  simp only [noOwnTL, Bool.and_eq_true] at h
  simp [snapArgs, snap_noOwn S x h.1, snapArgs_noOwn S xs (j + 1) h.2]
mutual
theorem rename_shut {f : Loc → Option Loc} {z : Loc → Bool} (n : Nat) : ∀ t : T, closed (rename S f z t) = true → locsOf n t = []
 | .own l g off len, h => by
  simp only [rename] at h
  split at h
  ·split at h
   ·split at h
    ·split at h <;> simp [closed] at h
    ·simp [closed] at h
   ·simp [closed] at h
  ·simp [closed] at h
 | .ptr l off, h => by simp only [rename] at h; split at h <;> simp [closed] at h
 | .aptr l g i off, h => by
  simp only [rename] at h
  split at h
  ·split at h
   ·split at h
    ·split at h <;> simp [closed] at h
    ·simp [closed] at h
   ·simp [closed] at h
  ·simp [closed] at h
 | .clo h cs, hh => by simp [rename, closed] at hh
 | .tup cs, h => by simp [rename, closed] at h
 | .agg cs, h => by
  simp only [rename, closed, Bool.and_eq_true] at h
  simp only [locsOf]
  exact renameL_shut n cs h.1
 | .undef, _ | .sc _, _ | .lst .., _ | .lptr .., _ => by simp only [locsOf]
theorem renameL_shut {f : Loc → Option Loc} {z : Loc → Bool} (n : Nat) : ∀ ts : List T, closedL (renameL S f z ts) = true → locsOfL n ts = []
 | [], _ => by simp only [locsOfL]
 | x :: xs, h => by
  simp only [renameL, closedL, Bool.and_eq_true] at h
  simp only [locsOfL, rename_shut n x h.1, renameL_shut n xs h.2, List.append_nil]
end
def Shut : T → Prop
 | .tup cs => closedL cs = true
 | t => closed t = true
theorem shut_rename {f : Loc → Option Loc} {z : Loc → Bool} (n : Nat) {t : T} (h : Shut (rename S f z t)) : locsOf n t = [] := by
 cases t with
 | tup cs =>
  simp only [rename, Shut] at h
  simp only [locsOf]
  exact renameL_shut n cs h
 | own l g off len =>
  refine rename_shut (S := S) (f := f) (z := z) n _ ?_
  revert h
  simp only [rename]
  split
  ·split
   ·split
    ·split <;> exact id
    ·exact id
   ·exact id
  ·exact id
 | ptr l off =>
  refine rename_shut (S := S) (f := f) (z := z) n _ ?_
  revert h; simp only [rename]; split <;> exact id
 | aptr l g i off =>
  refine rename_shut (S := S) (f := f) (z := z) n _ ?_
  revert h
  simp only [rename]
  split
  ·split
   ·split
    ·split <;> exact id
    ·exact id
   ·exact id
  ·exact id
 | agg cs => exact rename_shut n _ (by simpa only [rename, Shut] using h)
 | clo g cs => simp only [rename, Shut, closed] at h; cases h
 | undef => simp only [locsOf]
 | sc v => simp only [locsOf]
 | lst sz xs => simp only [locsOf]
 | lptr sz xs i off => simp only [locsOf]
theorem take_shut {n L : Nat} {d : Option Nat} {t u : T} {S1 S S2 : Store} (h : takeIn n L d t S1 S = some (u, S2)) (hu : Shut u) : dedup (locsOf n t) = [] ∧ lvle n t = true ∧ u = t ∧ S2 = S := by
 unfold takeIn at h
 split at h
 ·rename_i hd
  split at h
  ·rename_i hl
   simp only [Option.some.injEq, Prod.mk.injEq] at h
   exact ⟨hd, hl, h.1.symm, h.2.symm⟩
  ·cases h
 ·rename_i hne
  split at h
  ·simp only [Option.some.injEq, Prod.mk.injEq] at h
   obtain ⟨rfl, _⟩ := h
   have := shut_rename n hu
   rw [this] at hne
   exact absurd rfl (hne)
  ·cases h
 ·cases h
theorem keep_idle {ls : List Loc} {t : T} {S1 S : Store} (hd : dedup (locsOf 1 t) = []) (h : ls = [] ∨ hasLst t = false) : keepS ls t S1 S = S := by
 unfold keepS
 rw [hd]
 rcases h with rfl | h
 ·rfl
 ·simp [h, arrLst]
theorem call_at (hA : ∀ l ∈ D, Y l = S l) {cF : CallF} {om : FuncId → List Nat} (hom : ∀ g, om g = [] ∨ True) {L : Nat} {d : Option Nat} {g : FuncId} {args : List T} {u : T} {S2 : Store} {e : Nat} (ho : om g = [])
  (h : goT cF om L d S g args [] = some ⟨u, S2, e⟩) (hown : OwnDL D args) (hn : noOwnTL args = true ∨ hasLst u = false) (hcl : ∃ as ls, snapArgs [] S 0 args = some (as, ls) ∧ closedL as = true) (hu : Shut u) :
  S2 = S ∧ ∃ e', goT cF om L d Y g args [] = some ⟨u, Y, e'⟩ := by
 obtain ⟨as, ls, h1, h2⟩ := hcl
 unfold goT at h ⊢
 rw [ho] at h ⊢
 rw [snapArgs_own hA args 0 hown]
 simp only [h1, plainC, h2, List.isEmpty_nil, List.contains_nil, Bool.false_and, Bool.not_false, Bool.and_self, if_true] at h ⊢
 have hls : ls = [] ∨ hasLst u = false := by
  rcases hn with hn | hn
  ·left
   rw [snapArgs_noOwn S args 0 hn] at h1
   simp only [Option.some.injEq, Prod.mk.injEq] at h1
   exact h1.2.symm
  ·exact .inr hn
 split at h
 ·rename_i rr S1 hc
  cases ht : takeIn 1 L d rr S1 (keepS ls rr S1 S) with
  | none => rw [ht] at h; cases h
  | some p =>
   obtain ⟨u', S2'⟩ := p
   rw [ht] at h
   simp only [Option.map_some, Option.some.injEq, Res.mk.injEq] at h
   obtain ⟨rfl, rfl, _⟩ := h
   obtain ⟨t1, t2, rfl, rfl⟩ := take_shut ht hu
   refine ⟨keep_idle t1 hls, 1, ?_⟩
   simp only [keep_idle t1 hls]
   unfold takeIn
   rw [t1]
   simp only [t2, if_true, Option.map_some]
 ·cases h
end
theorem setRo_eq {S Q : Store} {l : Loc} (h : Q l = S l) (ls : List Loc) : setRo Q ls l = setRo S ls l := by unfold setRo; rw [h]
theorem setRo_not {S : Store} {l : Loc} {ls : List Loc} (h : ¬ l ∈ ls) : setRo S ls l = S l := by
 unfold setRo
 have : ls.contains l = false := by
  cases hb : ls.contains l with
  | false => rfl
  | true => exact absurd (by simpa using hb) h
 rw [this]
 cases hS : S l with
 | none => rfl
 | some o => cases o <;> simp
theorem over_ro {L : Nat} {f : Foot} {S Q : Store} (hA : ∀ l ∈ locs L f.1, Q l = S l) (hW : ∀ l ∈ locs L f.2, l ∈ locs L f.1) {ls : List Loc} (h : ∀ l ∈ ls, l ∈ locs L f.2) : setRo Q ls = over (locs L f.2) (setRo S ls) Q := by
 funext l
 unfold over
 by_cases hm : l ∈ locs L f.2
 ·rw [if_pos hm]; exact setRo_eq (hA l (hW l hm)) ls
 ·rw [if_neg hm]; exact setRo_not fun hx => hm (h l hx)
theorem call_at2 {L : Nat} {f : Foot} {S Q : Store} (hA : ∀ l ∈ locs L f.1, Q l = S l) (hW : ∀ l ∈ locs L f.2, l ∈ locs L f.1) {cF : CallF} {om : FuncId → List Nat} {d : Option Nat} {g : FuncId} {args : List T} {u : T} {S2 : Store} {e : Nat} (ho : om g = [])
  (h : goT cF om L d S g args [] = some ⟨u, S2, e⟩) (hown : OwnDL (locs L f.1) args) (hcl : ∃ as ls, snapArgs [] S 0 args = some (as, ls) ∧ closedL as = true ∧ ∀ l ∈ ls, l ∈ locs L f.2) (hu : Shut u) :
  ∃ e', goT cF om L d Q g args [] = some ⟨u, over (locs L f.2) S2 Q, e'⟩ := by
 obtain ⟨as, ls, h1, h2, h4⟩ := hcl
 unfold goT at h ⊢
 rw [ho] at h ⊢
 rw [snapArgs_own hA args 0 hown]
 simp only [h1, plainC, h2, List.isEmpty_nil, List.contains_nil, Bool.false_and, Bool.not_false, Bool.and_self, if_true] at h ⊢
 split at h
 ·rename_i rr S1 hc
  cases ht : takeIn 1 L d rr S1 (keepS ls rr S1 S) with
  | none => rw [ht] at h; cases h
  | some p =>
   obtain ⟨u', S2'⟩ := p
   rw [ht] at h
   simp only [Option.map_some, Option.some.injEq, Res.mk.injEq] at h
   obtain ⟨rfl, rfl, _⟩ := h
   obtain ⟨t1, t2, rfl, rfl⟩ := take_shut ht hu
   refine ⟨1, ?_⟩
   have hk : keepS ls u' S1 Q = over (locs L f.2) (keepS ls u' S1 S) Q := by
    unfold keepS
    cases (!ls.isEmpty && (hasLst u' || arrLst S1 (dedup (locsOf 1 u')))) with
    | true => exact over_ro hA hW h4
    | false => exact (over_same hA hW).symm
   unfold takeIn
   rw [t1]
   simp only [t2, if_true, Option.map_some, hk]
 ·cases h
mutual
theorem snap_ls {D : LSet} {S : Store} : ∀ (t : T) {u : T} {ls : List Loc}, OwnD D t → snap S t = some (u, ls) → ∀ l ∈ ls, l ∈ D
 | .own l g off n, u, ls, h, hs => by
  simp only [OwnD] at h
  simp only [snap] at hs
  split at hs
  ·split at hs
   ·simp only [Option.some.injEq, Prod.mk.injEq] at hs
    obtain ⟨_, rfl⟩ := hs
    intro m hm
    rw [List.mem_singleton.1 hm]; exact h
   ·cases hs
  ·cases hs
 | .agg cs, u, ls, h, hs => by
  simp only [OwnD] at h
  simp only [snap] at hs
  split at hs
  ·rename_i ds l2 h2
   simp only [Option.some.injEq, Prod.mk.injEq] at hs
   obtain ⟨_, rfl⟩ := hs
   exact snapL_ls cs h h2
  ·cases hs
 | .undef, u, ls, _, hs | .sc _, u, ls, _, hs | .lst .., u, ls, _, hs | .ptr .., u, ls, _, hs | .lptr .., u, ls, _, hs | .aptr .., u, ls, _, hs | .clo .., u, ls, _, hs | .tup _, u, ls, _, hs => by
  simp only [snap, Option.some.injEq, Prod.mk.injEq] at hs
  obtain ⟨_, rfl⟩ := hs
  intro m hm; cases hm
theorem snapL_ls {D : LSet} {S : Store} : ∀ (ts : List T) {us : List T} {ls : List Loc}, OwnDL D ts → snapL S ts = some (us, ls) → ∀ l ∈ ls, l ∈ D
 | [], us, ls, _, hs => by
  simp only [snapL, Option.some.injEq, Prod.mk.injEq] at hs
  obtain ⟨_, rfl⟩ := hs
  intro m hm; cases hm
 | x :: xs, us, ls, h, hs => by
  simp only [OwnDL] at h
  simp only [snapL] at hs
  split at hs
  ·rename_i y l1 ys l2 h1 h2
   simp only [Option.some.injEq, Prod.mk.injEq] at hs
   obtain ⟨_, rfl⟩ := hs
   intro m hm
   rcases List.mem_append.1 hm with hm | hm
   ·exact snap_ls x h.1 h1 m hm
   ·exact snapL_ls xs h.2 h2 m hm
  ·cases hs
end
theorem freezeL_own {L : Nat} {f : Foot} (hW : ∀ l ∈ locs L f.2, l ∈ locs L f.1) : ∀ (ts : List T) {S Q : Store} (hA : ∀ l ∈ locs L f.1, Q l = S l) {us : List T} {S1 : Store}, OwnDL (locs L f.2) ts → freezeL S ts = some (us, S1) →
  freezeL Q ts = some (us, over (locs L f.2) S1 Q) ∧ ∀ l ∈ locs L f.1, over (locs L f.2) S1 Q l = S1 l
 | [], S, Q, hA, us, S1, _, h => by
  simp only [freezeL, Option.some.injEq, Prod.mk.injEq] at h
  obtain ⟨rfl, rfl⟩ := h
  rw [over_same hA hW]
  exact ⟨by simp only [freezeL], hA⟩
 | x :: xs, S, Q, hA, us, S1, ho, h => by
  simp only [OwnDL] at ho
  simp only [freezeL] at h ⊢
  have hA2 : ∀ l ∈ locs L f.2, Q l = S l := fun l hl => hA l (hW l hl)
  unfold freeze at h ⊢
  rw [snap_own hA2 x ho.1]
  cases hs : snap S x with
  | none => rw [hs] at h; cases h
  | some p =>
   obtain ⟨u, ls⟩ := p
   rw [hs] at h
   simp only at h ⊢
   by_cases hc : closed u = true
   ·simp only [hc, if_true] at h ⊢
    have hls := snap_ls x ho.1 hs
    cases hf : freezeL (setRo S ls) xs with
    | none => rw [hf] at h; cases h
    | some q =>
     obtain ⟨ys, S2⟩ := q
     rw [hf] at h
     simp only [Option.some.injEq, Prod.mk.injEq] at h
     obtain ⟨rfl, rfl⟩ := h
     obtain ⟨a1, a2⟩ := freezeL_own hW xs (S := setRo S ls) (Q := setRo Q ls) (fun l hl => setRo_eq (hA l hl) ls) ho.2 hf
     have e : over (locs L f.2) S2 (setRo Q ls) = over (locs L f.2) S2 Q := by
      funext l
      unfold over
      by_cases hm : l ∈ locs L f.2
      ·rw [if_pos hm, if_pos hm]
      ·rw [if_neg hm, if_neg hm]; exact setRo_not fun hx => hm (hls l hx)
     rw [e] at a1 a2
     rw [a1]
     exact ⟨rfl, a2⟩
   ·simp only [hc] at h; cases h
theorem over_over {W : LSet} (S1 S2 Q : Store) : over W S1 (over W S2 Q) = over W S1 Q := by
 funext l; unfold over
 by_cases hm : l ∈ W
 ·rw [if_pos hm, if_pos hm]
 ·rw [if_neg hm, if_neg hm, if_neg hm]
theorem one_at {L : Nat} {f : Foot} {S Q : Store} (hA : ∀ l ∈ locs L f.1, Q l = S l) (hW : ∀ l ∈ locs L f.2, l ∈ locs L f.1) {cF : CallF} {om : FuncId → List Nat} {d : Option Nat} {g : FuncId} {args caps : List T} {u : T} {S2 : Store} {e : Nat}
  (h : goT cF om L d S g args caps = some ⟨u, S2, e⟩) (hown : OwnDL (locs L f.1) args)
  (hs : ∃ as ls l, snapArgs (om g) S 0 args = some (as, ls) ∧ ¬ plainC L (om g) as caps = true ∧ ¬ lowC L (om g) (as ++ caps) = true ∧ shut1 (om g) as caps = some l ∧ (∀ l ∈ ls, l ∈ locs L f.2) ∧ l ∈ locs L f.2) :
  goT cF om L d Q g args caps = some ⟨u, over (locs L f.2) S2 Q, 2⟩ := by
 obtain ⟨as, ls, l, h1, h2, h3, h4, h5, h6⟩ := hs
 unfold goT at h ⊢
 rw [snapArgs_own' (om g) hA args 0 hown]
 simp only [h1, if_neg h2, if_neg h3, h4, goW] at h ⊢
 have hq : setRo Q ls l = setRo S ls l := setRo_eq (hA l (hW l h6)) ls
 have hb : boxC (setRo Q ls) l = boxC (setRo S ls) l := by unfold boxC; rw [hq]
 have ho : only l (setRo Q ls) = only l (setRo S ls) := by
  funext m; unfold only
  by_cases hm : m = l
  ·rw [if_pos hm, if_pos hm, hm, hq]
  ·rw [if_neg hm, if_neg hm]
 rw [hb, ho]
 split at h
 ·rename_i hbt
  rw [if_pos hbt]
  split at h
  ·rename_i r S1 hc
   split at h
   ·rename_i hcl
    simp only [Option.some.injEq, Res.mk.injEq] at h
    obtain ⟨rfl, rfl, _⟩ := h
    rw [if_pos hcl]
    have : lay1 l S1 (setRo Q ls) = over (locs L f.2) (lay1 l S1 (setRo S ls)) Q := by
     rw [over_ro hA hW h5]
     funext m
     unfold over lay1
     by_cases hm : m = l
     ·subst hm; simp [h6]
     ·simp only [if_neg hm]
    rw [this]
   ·cases h
  ·cases h
 ·cases h
theorem low_at {L : Nat} {f : Foot} {S Q : Store} (hA : ∀ l ∈ locs L f.1, Q l = S l) (hW : ∀ l ∈ locs L f.2, l ∈ locs L f.1) {cF : CallF} {om : FuncId → List Nat} {d : Option Nat} {g : FuncId} {args caps : List T} {u : T} {S2 : Store} {e : Nat}
  (h : goT cF om L d S g args caps = some ⟨u, S2, e⟩) (hown : OwnDL (locs L f.1) args)
  (hs : ∃ as ls, snapArgs (om g) S 0 args = some (as, ls) ∧ ¬ plainC L (om g) as caps = true ∧ lowC L (om g) (as ++ caps) = true ∧ ∀ l ∈ ls, l ∈ locs L f.2) (h9 : 9999999 ∈ f.1) (h9' : 9999999 ∈ f.2)
  (hnew : lvle (L - 1) u = true ∨ ∃ n, d = some n ∧ (L, 1000 * (n + 1)) ∈ locs L f.2) :
  goT cF om L d Q g args caps = some ⟨u, over (locs L f.2) S2 Q, 2⟩ := by
 obtain ⟨as, ls, h1, h2, h3, h4⟩ := hs
 have h0 : 0 < L := by
  unfold lowC at h3
  simp only [Bool.and_eq_true] at h3
  have := h3.1.2
  rw [Nat.blt_eq] at this
  exact this
 unfold goT at h ⊢
 rw [snapArgs_own' (om g) hA args 0 hown]
 simp only [h1, if_neg h2, h3, if_true] at h ⊢
 have ht : trunc (L - 1) (setRo Q ls) = trunc (L - 1) (setRo S ls) := by
  funext l
  unfold trunc
  by_cases hl : l.1 ≤ L - 1
  ·rw [if_pos hl, if_pos hl]
   exact setRo_eq (hA l (in_locs.2 (.inr ⟨by omega, h9⟩))) ls
  ·rw [if_neg hl, if_neg hl]
 rw [ht]
 split at h
 ·rename_i r S1 hc
  have hlay : lay (L - 1) S1 (setRo Q ls) = over (locs L f.2) (lay (L - 1) S1 (setRo S ls)) Q := by
   funext l
   unfold over
   by_cases hl : l.1 ≤ L - 1
   ·rw [lay_lo hl, lay_lo hl, if_pos (in_locs.2 (.inr ⟨by omega, h9'⟩))]
   ·rw [lay_hi hl, lay_hi hl]
    by_cases hm : l ∈ locs L f.2
    ·rw [if_pos hm]; exact setRo_eq (hA l (hW l hm)) ls
    ·rw [if_neg hm]; exact setRo_not fun hx => hm (h4 l hx)
  have key : ∀ X, lowTake L d r S1 (lay (L - 1) S1 (setRo S ls)) = some (u, X) → lowTake L d r S1 (lay (L - 1) S1 (setRo Q ls)) = some (u, over (locs L f.2) X Q) := by
   intro X hX
   unfold lowTake at hX ⊢
   split at hX
   ·rename_i hcr
    simp only [Option.some.injEq, Prod.mk.injEq] at hX
    obtain ⟨rfl, rfl⟩ := hX
    rw [if_pos hcr, hlay]
   ·rename_i hcr
    rw [if_neg hcr]
    split at hX
    ·rename_i hlen
     rw [if_pos hlen]
     split at hX
     ·rename_i u' S3 htk
      split at hX
      ·cases hX
      ·rename_i hlu
       simp only [Option.some.injEq, Prod.mk.injEq] at hX
       obtain ⟨rfl, rfl⟩ := hX
       obtain ⟨n, rfl, hin⟩ := hnew.resolve_left hlu
       have e : takeIn L L (some n) r S1 (lay (L - 1) S1 (setRo Q ls)) = some (u', over (locs L f.2) S3 Q) := by
        unfold takeIn at htk ⊢
        cases hd : dedup (locsOf L r) with
        | nil =>
         rw [hd] at htk
         simp only [] at htk ⊢
         split at htk
         ·rename_i hlr
          simp only [Option.some.injEq, Prod.mk.injEq] at htk
          obtain ⟨rfl, rfl⟩ := htk
          rw [if_pos hlr, hlay]
         ·cases htk
        | cons x xs =>
         have hxs : xs = [] := by
          rw [hd] at hlen
          cases xs with
          | nil => rfl
          | cons y ys => simp at hlen
         subst hxs
         rw [hd] at htk
         simp only [List.length_singleton, List.range_one, List.all_cons, List.all_nil, Bool.and_true, Nat.add_zero] at htk ⊢
         have hQ : lay (L - 1) S1 (setRo Q ls) (L, 1000 * (n + 1)) = lay (L - 1) S1 (setRo S ls) (L, 1000 * (n + 1)) := by
          have hl : ¬ ((L, 1000 * (n + 1)) : Loc).1 ≤ L - 1 := by show ¬ L ≤ L - 1; omega
          rw [lay_hi hl, lay_hi hl]
          exact setRo_eq (hA _ (hW _ hin)) ls
         rw [hQ]
         split at htk
         ·rename_i hcond
          simp only [Option.some.injEq, Prod.mk.injEq] at htk
          obtain ⟨rfl, rfl⟩ := htk
          rw [if_pos hcond]
          congr 2
          funext l
          unfold addS over
          cases hs : srcOf [x] L (1000 * (n + 1)) l with
          | some q =>
           have hl : l = (L, 1000 * (n + 1)) := by
            unfold srcOf at hs
            split at hs
            ·rename_i hh
             have : l.2 - 1000 * (n + 1) = 0 := by
              rcases Nat.eq_zero_or_pos (l.2 - 1000 * (n + 1)) with h | h
              ·exact h
              ·rw [List.getElem?_eq_none (by simp; omega)] at hs; cases hs
             ext
             ·exact hh.1
             ·show l.2 = 1000 * (n + 1)
              omega
            ·cases hs
           rw [if_pos (show l ∈ locs L f.2 by rw [hl]; exact hin)]
           simp only [hs]
          | none =>
           simp only [hs]
           rw [hlay]
           rfl
         ·cases htk
       rw [e]
       simp only []
       rw [if_neg hlu]
     ·cases hX
    ·cases hX
  cases hlt : lowTake L d r S1 (lay (L - 1) S1 (setRo S ls)) with
  | none => rw [hlt] at h; cases h
  | some p =>
   obtain ⟨u', X⟩ := p
   rw [hlt] at h
   simp only [Option.map_some, Option.some.injEq, Res.mk.injEq] at h
   obtain ⟨rfl, rfl, _⟩ := h
   rw [key _ hlt]
   rfl
 ·cases h
end Go.TM
