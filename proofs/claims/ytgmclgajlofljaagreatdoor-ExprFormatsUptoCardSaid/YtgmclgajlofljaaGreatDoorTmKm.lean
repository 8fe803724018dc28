/- Great runs in pieces: calls whose results are known already. -/
import Derived.Test.YtgmclgajlofljaaGreatDoorTmKg
set_option linter.all false
namespace Go.TM
open Go
mutual
def veq : V → V → Bool
 | .u, .u => true
 | .p c n, .p c' n' => Nat.beq n n' && Nat.beq c c'
 | .m c n, .m c' n' => Nat.beq n n' && Nat.beq c c'
 | .b q, .b q' => cond q q' (!q')
 | .s l n, .s l' n' => Nat.beq l l' && Nat.beq n n'
 | .np, .np => true
 | .ns, .ns => true
 | .nf, .nf => true
 | .ni, .ni => true
 | .fn f, .fn f' => Nat.beq f f'
 | .lst sz xs, .lst sz' ys => Nat.beq sz sz' && veqL xs ys
 | .agg xs, .agg ys => veqL xs ys
 | .tup xs, .tup ys => veqL xs ys
 | _, _ => false
def veqL : List V → List V → Bool
 | [], [] => true
 | x :: xs, y :: ys => veq x y && veqL xs ys
 | _, _ => false
end
mutual
theorem veq_eq : ∀ (a b : V), veq a b = true → a = b
 | .u, b, h => by cases b <;> first | rfl | simp [veq] at h
 | .p c n, b, h => by
  cases b with
  | p c' n' => simp only [veq, Bool.and_eq_true, nbeq] at h; rw [h.1, h.2]
  | _ => simp [veq] at h
 | .m c n, b, h => by
  cases b with
  | m c' n' => simp only [veq, Bool.and_eq_true, nbeq] at h; rw [h.1, h.2]
  | _ => simp [veq] at h
 | .b q, b, h => by
  cases b with
  | b q' => cases q <;> cases q' <;> first | rfl | simp [veq] at h
  | _ => simp [veq] at h
 | .s l n, b, h => by
  cases b with
  | s l' n' => simp only [veq, Bool.and_eq_true, nbeq] at h; rw [h.1, h.2]
  | _ => simp [veq] at h
 | .np, b, h => by cases b <;> first | rfl | simp [veq] at h
 | .ns, b, h => by cases b <;> first | rfl | simp [veq] at h
 | .nf, b, h => by cases b <;> first | rfl | simp [veq] at h
 | .ni, b, h => by cases b <;> first | rfl | simp [veq] at h
 | .fn f, b, h => by
  cases b with
  | fn f' => simp only [veq, nbeq] at h; rw [h]
  | _ => simp [veq] at h
 | .lst sz xs, b, h => by
  cases b with
  | lst sz' ys => simp only [veq, Bool.and_eq_true, nbeq] at h; rw [h.1, veqL_eq xs ys h.2]
  | _ => simp [veq] at h
 | .agg xs, b, h => by
  cases b with
  | agg ys => simp only [veq] at h; rw [veqL_eq xs ys h]
  | _ => simp [veq] at h
 | .tup xs, b, h => by
  cases b with
  | tup ys => simp only [veq] at h; rw [veqL_eq xs ys h]
  | _ => simp [veq] at h
 | .own .., b, h => by cases b <;> simp [veq] at h
 | .ptr .., b, h => by cases b <;> simp [veq] at h
 | .lptr .., b, h => by cases b <;> simp [veq] at h
 | .aptr .., b, h => by cases b <;> simp [veq] at h
 | .clo .., b, h => by cases b <;> simp [veq] at h
theorem veqL_eq : ∀ (a b : List V), veqL a b = true → a = b
 | [], b, h => by cases b <;> first | rfl | simp [veqL] at h
 | x :: xs, b, h => by
  cases b with
  | nil => simp [veqL] at h
  | cons y ys => simp only [veqL, Bool.and_eq_true] at h; rw [veq_eq x y h.1, veqL_eq xs ys h.2]
end
structure KM where
 k : Nat
 f : Nat
 a : List V
 v : V
noncomputable def kyV (v : V) : Nat := @V.rec (fun _ => Nat) (fun _ => Unit) 0 (fun _ n => Nat.mod n 1000003) (fun _ n => n) (fun _ => 0) (fun _ n => Nat.mod n 1000003) 0 0 0 0 (fun _ => 0) (fun _ _ _ => 0) (fun _ _ _ _ => 0) (fun _ _ => 0) (fun _ _ _ _ _ => 0) (fun _ _ _ _ => 0) (fun _ _ _ => 0) (fun _ _ => 0) (fun _ _ => 0) () (fun _ _ _ _ => ()) v
noncomputable def kyL (args : List V) : Nat := @List.rec V (fun _ => Nat) 0 (fun v _ ih => Nat.add (Nat.mul 1000003 ih) (kyV v)) args
noncomputable def findK (es : List KM) (f : Nat) (args : List V) (k : Nat) : Option V := @List.rec KM (fun _ => Nat → List V → Nat → Option V) (fun _ _ _ => none)
 (fun e _ ih f args k => @Bool.rec (fun _ => Option V) (ih f args k) (@Bool.rec (fun _ => Option V) (ih f args k) (@Bool.rec (fun _ => Option V) (ih f args k) (some e.v) (veqL e.a args)) (Nat.beq e.f f)) (Nat.beq e.k k)) es f args k
noncomputable def findM (es : List KM) (f : Nat) (args : List V) : Option V := @Nat.rec (fun _ => Option V) (findK es f args 0) (fun k _ => findK es f args (Nat.succ k)) (kyL args)
noncomputable def useM (K : KE) (mask : Nat) (es : List KM) : KE := { K with M := fun f args => @Bool.rec (fun _ => Option V) (K.M f args) (@Option.rec V (fun _ => Option V) (K.M f args) (fun v => some v) (findM es f args)) (Nat.beq (Nat.mod (Nat.shiftRight mask f) 2) 1) }
noncomputable def sE (S : KS) : Bool := @List.rec (Nat × KT) (fun _ => Bool) true (fun e _ ih => @Bool.rec (fun _ => Bool) false ih (kempty e.2)) S
theorem sE_get : ∀ (S : KS), sE S = true → ∀ c, cget S c = []
 | [], _, c => rfl
 | e :: S, h, c => by
  have h : (@Bool.rec (fun _ => Bool) false (sE S) (kempty e.2)) = true := h
  rw [br_and, Bool.and_eq_true, kempty_eq, List.isEmpty_iff] at h
  rw [cget_cons, h.1]
  split
  ·rfl
  ·split
   ·rfl
   ·exact sE_get S h.2 c
theorem sE_emp {S : KS} (h : sE S = true) : abS S = emp := by
 funext l
 unfold abS emp
 split
 ·rw [kget_eq, sE_get S h, fget_nil]; rfl
 ·rfl
noncomputable def okM (K : KE) (es : List KM) : Bool := @List.rec KM (fun _ => Bool) true (fun e _ ih => @Bool.rec (fun _ => Bool) false ih (match runK K 1000 e.f e.a with
 | some (v, S) => sE S && veq v e.v
 | none => false)) es
def TrueM (E : Env) (e : KM) : Prop := callF E 0 e.f (V.tL e.a) emp = some (e.v.t, emp)
theorem okM_t {K : KE} {E : Env} (hk : KEOk K E) : ∀ (es : List KM), okM K es = true → ∀ e ∈ es, TrueM E e
 | [], _, e, he => by cases he
 | d :: es, h, e, he => by
  have h : (@Bool.rec (fun _ => Bool) false (okM K es) (match runK K 1000 d.f d.a with
   | some (v, S) => sE S && veq v d.v
   | none => false)) = true := h
  rw [br_and, Bool.and_eq_true] at h
  rcases List.mem_cons.1 he with rfl | he
  ·have h1 := h.1
   split at h1
   ·rename_i v S hr
    rw [Bool.and_eq_true] at h1
    have := runK_t hk hr
    rw [sE_emp h1.1] at this
    unfold TrueM
    rw [this, veq_eq _ _ h1.2]
   ·cases h1
  ·exact okM_t hk es h.2 e he
end Go.TM
