/- A fast evaluator of light code, for closed runs in the kernel: values, stores, what they stand for. -/
import Derived.Test.YtgmclgajlofljaaGreatDoorTmAbb
set_option linter.all false
namespace Go.TM
open Go
inductive V where
 | u
 | p (c n : Nat)
 | m (c n : Nat)
 | b (q : Bool)
 | s (len n : Nat)
 | np | ns | nf | ni
 | fn (f : Nat)
 | lst (sz : Nat) (xs : List V)
 | own (l g off len : Nat)
 | ptr (l off : Nat)
 | lptr (sz : Nat) (xs : List V) (i off : Nat)
 | aptr (l g i off : Nat)
 | clo (f : Nat) (caps : List V)
 | agg (cs : List V)
 | tup (cs : List V)
def lc (k : Nat) : Loc := (k / 4294967296, k % 4294967296)
def lk (l : Loc) : Nat := l.1 * 4294967296 + l.2
def kd (c : Nat) : IntKind :=
 bif Nat.beq c 9223372036854775808 then .i64 else bif Nat.beq c 256 then .u8 else bif Nat.beq c 2147483648 then .i32 else bif Nat.beq c 4294967296 then .u32 else
 bif Nat.beq c 18446744073709551616 then .u64 else bif Nat.beq c 65536 then .u16 else bif Nat.beq c 32768 then .i16 else .i8
def okc (c : Nat) : Bool :=
 bif Nat.beq c 9223372036854775808 then true else bif Nat.beq c 256 then true else bif Nat.beq c 2147483648 then true else bif Nat.beq c 4294967296 then true else
 bif Nat.beq c 18446744073709551616 then true else bif Nat.beq c 65536 then true else bif Nat.beq c 32768 then true else Nat.beq c 128
def bytesN : Nat → Nat → List UInt8
 | 0, _ => []
 | k + 1, n => UInt8.ofNat (n % 256) :: bytesN k (n / 256)
def bstr (len n : Nat) : ByteArray := ⟨(bytesN len n).toArray⟩
mutual
def V.t : V → T
 | .u => .undef
 | .p c n => .sc (.int (kd c) (n : Int))
 | .m c n => .sc (.int (kd c) (Int.negSucc n))
 | .b q => .sc (.bool q)
 | .s len n => .sc (.string (bstr len n))
 | .np => .sc (.pointer none)
 | .ns => .sc (.slice none 0 0)
 | .nf => .sc .nilFunc
 | .ni => .sc .nilIface
 | .fn f => .sc (.func (.func f) #[] #[])
 | .lst sz xs => .lst sz (V.tL xs)
 | .own l g off len => .own (lc l) g off len
 | .ptr l off => .ptr (lc l) off
 | .lptr sz xs i off => .lptr sz (V.tL xs) i off
 | .aptr l g i off => .aptr (lc l) g i off
 | .clo f cs => .clo f (V.tL cs)
 | .agg cs => .agg (V.tL cs)
 | .tup cs => .tup (V.tL cs)
def V.tL : List V → List T
 | [] => []
 | x :: xs => x.t :: V.tL xs
end
theorem tL_map : ∀ xs, V.tL xs = xs.map V.t
 | [] => by simp only [V.tL, List.map_nil]
 | x :: xs => by simp only [V.tL, List.map_cons, tL_map xs]
inductive KO where
 | box (bt : Nat) (cs : List V)
 | arr (ro : Bool) (g sz e : Nat) (xs : List V)
 | gone
def KO.t : KO → Obj
 | .box bt cs => .box bt (V.tL cs)
 | .arr ro g sz e xs => .arr ro g sz e (V.tL xs)
 | .gone => .gone
abbrev KT := List (Nat × KO)
abbrev KS := List (Nat × KT)
inductive SL where
 | nil
 | cons (d : Nat) (v : V) (r : SL)
def SL.t : SL → Slots
 | .nil => []
 | .cons d v r => (d, v.t) :: r.t
noncomputable section
def kin (x : Nat) (l : List Nat) : Bool := @List.rec Nat (fun _ => Bool) false (fun a _ ih => cond (Nat.beq a x) true ih) l
def nth {α : Type} (xs : List α) (i : Nat) : Option α := @List.rec α (fun _ => Nat → Option α) (fun _ => none) (fun a _ ih i => @Nat.rec (fun _ => Option α) (some a) (fun j _ => ih j) i) xs i
def klen {α : Type} (xs : List α) : Nat := @List.rec α (fun _ => Nat) (nat_lit 0) (fun _ _ ih => Nat.succ ih) xs
def kdrop {α : Type} (n : Nat) (xs : List α) : List α := @List.rec α (fun _ => Nat → List α) (fun _ => []) (fun a r ih n => @Nat.rec (fun _ => List α) (a :: r) (fun j _ => ih j) n) xs n
def ktake {α : Type} (n : Nat) (xs : List α) : List α := @List.rec α (fun _ => Nat → List α) (fun _ => []) (fun a _ ih n => @Nat.rec (fun _ => List α) [] (fun j _ => a :: ih j) n) xs n
def kapp {α : Type} (xs ys : List α) : List α := @List.rec α (fun _ => List α) ys (fun a _ ih => a :: ih) xs
def kset1 {α : Type} (xs : List α) (i : Nat) (v : α) : List α := @List.rec α (fun _ => Nat → List α) (fun _ => []) (fun a r ih i => @Nat.rec (fun _ => List α) (v :: r) (fun j _ => a :: ih j) i) xs i
def kall {α : Type} (p : α → Bool) (xs : List α) : Bool := @List.rec α (fun _ => Bool) true (fun a _ ih => cond (p a) ih false) xs
def krep (n : Nat) (v : V) : List V := @Nat.rec (fun _ => List V) [] (fun _ ih => v :: ih) n
def kmap {α β : Type} (f : α → β) (xs : List α) : List β := @List.rec α (fun _ => List β) [] (fun a _ ih => f a :: ih) xs
def ksplice (cs : List V) (off : Nat) (ys : List V) : List V := kapp (ktake off cs) (kapp ys (kdrop (Nat.add off (klen ys)) cs))
def kempty {α : Type} (xs : List α) : Bool := @List.rec α (fun _ => Bool) true (fun _ _ _ => false) xs
theorem kin_eq (x : Nat) : ∀ l, kin x l = l.contains x
 | [] => rfl
 | a :: l => by
  show cond (Nat.beq a x) true (kin x l) = _
  rw [kin_eq x l, List.contains_cons]
  by_cases h : a = x
  ·subst h; simp
  ·have h1 : Nat.beq a x = false := by cases hb : Nat.beq a x with
   | false => rfl
   | true => exact absurd (Nat.eq_of_beq_eq_true hb) h
   have h2 : (x == a) = false := by simpa using fun e => h e.symm
   simp [h1, h2]
theorem nth_eq {α : Type} : ∀ (xs : List α) (i : Nat), nth xs i = xs[i]?
 | [], i => by simp; rfl
 | a :: xs, 0 => rfl
 | a :: xs, i + 1 => by
  show nth xs i = _
  rw [nth_eq xs i, List.getElem?_cons_succ]
theorem klen_eq {α : Type} : ∀ xs : List α, klen xs = xs.length
 | [] => rfl
 | a :: xs => by show Nat.succ (klen xs) = _; rw [klen_eq xs]; rfl
theorem kdrop_eq {α : Type} : ∀ (xs : List α) (n : Nat), kdrop n xs = xs.drop n
 | [], n => by simp; rfl
 | a :: xs, 0 => rfl
 | a :: xs, n + 1 => by show kdrop n xs = _; rw [kdrop_eq xs n]; rfl
theorem ktake_eq {α : Type} : ∀ (xs : List α) (n : Nat), ktake n xs = xs.take n
 | [], n => by simp; rfl
 | a :: xs, 0 => rfl
 | a :: xs, n + 1 => by show a :: ktake n xs = _; rw [ktake_eq xs n]; rfl
theorem kapp_eq {α : Type} (ys : List α) : ∀ xs : List α, kapp xs ys = xs ++ ys
 | [] => rfl
 | a :: xs => by show a :: kapp xs ys = _; rw [kapp_eq ys xs]; rfl
theorem kset1_eq {α : Type} (v : α) : ∀ (xs : List α) (i : Nat), kset1 xs i v = xs.set i v
 | [], i => rfl
 | a :: xs, 0 => rfl
 | a :: xs, i + 1 => by show a :: kset1 xs i v = _; rw [kset1_eq v xs i]; rfl
theorem kall_eq {α : Type} (p : α → Bool) : ∀ xs : List α, kall p xs = xs.all p
 | [] => rfl
 | a :: xs => by show cond (p a) (kall p xs) false = _; rw [kall_eq p xs]; cases h : p a <;> simp [h]
theorem krep_eq (v : V) : ∀ n, krep n v = List.replicate n v
 | 0 => rfl
 | n + 1 => by show v :: krep n v = _; rw [krep_eq v n]; rfl
theorem kempty_eq {α : Type} : ∀ xs : List α, kempty xs = xs.isEmpty
 | [] => rfl
 | a :: xs => rfl
abbrev An := V × KS
def kg (s : SL) (d : Nat) : V := @SL.rec (fun _ => Nat → V) (fun _ => .u) (fun k v _ ih d => (@Bool.rec (fun _ => _) (ih d) (v) (Nat.beq k d))) s d
def lev (k : Nat) : Nat := Nat.div k 4294967296
def bas (k : Nat) : Nat := Nat.mul (Nat.div k 4294967296) 4294967296
def fget (F : KT) (k b : Nat) : Option KO := @List.rec (Nat × KO) (fun _ => Nat → Nat → Option KO) (fun _ _ => none) (fun e _ ih k b => (@Bool.rec (fun _ => _) ((@Bool.rec (fun _ => _) (ih k b) (none) (Nat.blt e.1 b))) (some e.2) (Nat.beq e.1 k))) F k b
def cget (S : KS) (c : Nat) : KT := @List.rec (Nat × KT) (fun _ => Nat → KT) (fun _ => []) (fun e _ ih c => (@Bool.rec (fun _ => _) ((@Bool.rec (fun _ => _) (ih c) ([]) (Nat.blt e.1 c))) (e.2) (Nat.beq e.1 c))) S c
def kget (S : KS) (k : Nat) : Option KO := fget (cget S (Nat.div k 137438953472)) k (bas k)
def fput (F : KT) (k : Nat) (o : KO) (b : Nat) : KT := @List.rec (Nat × KO) (fun _ => Nat → KO → Nat → KT) (fun k o _ => [(k, o)]) (fun e r ih k o b => (@Bool.rec (fun _ => _) ((@Bool.rec (fun _ => _) (e :: ih k o b) ((k, o) :: e :: r) (Nat.blt e.1 b))) ((k, o) :: r) (Nat.beq e.1 k))) F k o b
def cput (S : KS) (c : Nat) (F : KT) : KS := @List.rec (Nat × KT) (fun _ => Nat → KT → KS) (fun c F => [(c, F)]) (fun e r ih c F => (@Bool.rec (fun _ => _) ((@Bool.rec (fun _ => _) (e :: ih c F) ((c, F) :: e :: r) (Nat.blt e.1 c))) ((c, F) :: r) (Nat.beq e.1 c))) S c F
def kput (S : KS) (k : Nat) (o : KO) : KS := cput S (Nat.div k 137438953472) (fput (cget S (Nat.div k 137438953472)) k o (bas k))
def ftr (F : KT) (L : Nat) : KT := @List.rec (Nat × KO) (fun _ => Nat → KT) (fun _ => []) (fun e r ih L => (@Bool.rec (fun _ => _) (ih L) (e :: r) (Nat.ble (lev e.1) L))) F L
def ktr (S : KS) (L : Nat) : KS := @List.rec (Nat × KT) (fun _ => Nat → KS) (fun _ => []) (fun e r ih L => (@Bool.rec (fun _ => _) ((@Bool.rec (fun _ => _) (ih L) (e :: r) (Nat.blt e.1 (Nat.div L 32)))) ((e.1, ftr e.2 L) :: r) (Nat.beq e.1 (Nat.div L 32)))) S L
def onBox (o : KO) (k : Nat → List V → Option An) : Option An := @KO.rec (fun _ => (Nat → List V → Option An) → Option An) (fun bt cs k => k bt cs) (fun _ _ _ _ _ _ => none) (fun _ => none) o k
def onArr (o : KO) (k : Bool → Nat → Nat → Nat → List V → Option An) : Option An := @KO.rec (fun _ => (Bool → Nat → Nat → Nat → List V → Option An) → Option An) (fun _ _ _ => none) (fun ro g sz e xs k => k ro g sz e xs) (fun _ => none) o k
def sk (o : Option V) (k : V → Option An) : Option An := @Option.rec V (fun _ => (V → Option An) → Option An) (fun _ => none) (fun v k => k v) o k
def gBox (S : KS) (l : Nat) (k : Nat → List V → Option An) : Option An := @Option.rec KO (fun _ => (Nat → List V → Option An) → Option An) (fun _ => none) (fun o k => onBox o k) (kget S l) k
def gArr (S : KS) (l : Nat) (k : Bool → Nat → Nat → Nat → List V → Option An) : Option An := @Option.rec KO (fun _ => (Bool → Nat → Nat → Nat → List V → Option An) → Option An) (fun _ => none) (fun o k => onArr o k) (kget S l) k
def isArr (o : KO) (g : Nat) : Bool := @KO.rec (fun _ => Nat → Bool) (fun _ _ _ => false) (fun _ g' _ _ _ g => Nat.beq g g') (fun _ => false) o g
def genIs (S : KS) (l g : Nat) : Bool := @Option.rec KO (fun _ => Nat → Bool) (fun _ => false) isArr (kget S l) g
def fresh (S : KS) (l : Nat) : Bool := @Option.rec KO (fun _ => Bool) true (fun _ => false) (kget S l)
def lvl (k : Nat) : Nat := Nat.div k 4294967296
def oneV (v : V)  : Bool := @V.rec (fun _ => Bool) (fun _ => Unit)
 (false)
 (fun _ _ => true)
 (fun _ _ => true)
 (fun _ => true)
 (fun _ _ => true)
 (true)
 (true)
 (true)
 (true)
 (fun _ => true)
 (fun _ _ _ => true)
 (fun _ _ _ _ => true)
 (fun _ _ => true)
 (fun _ _ _ _ _ => true)
 (fun _ _ _ _ => true)
 (fun _ _ _ => true)
 (fun _ _ => false)
 (fun _ _ => false)
 () (fun _ _ _ _ => ()) v
def cl (v : V)  : Bool := @V.rec (fun _ => Bool) (fun _ => Bool)
 (false)
 (fun _ _ => true)
 (fun _ _ => true)
 (fun _ => true)
 (fun _ _ => true)
 (true)
 (true)
 (true)
 (true)
 (fun _ => true)
 (fun _ _ ih => ih)
 (fun _ _ _ _ => false)
 (fun _ _ => false)
 (fun _ _ _ _ _ => false)
 (fun _ _ _ _ => false)
 (fun _ _ _ => false)
 (fun cs ih => (@Bool.rec (fun _ => _) (false) (kall oneV cs) (ih)))
 (fun _ _ => false)
 (true) (fun _ _ hx hxs => (@Bool.rec (fun _ => _) (false) (hxs) (hx))) v
def clL (v : List V)  : Bool := @V.rec_1 (fun _ => Bool) (fun _ => Bool)
 (false)
 (fun _ _ => true)
 (fun _ _ => true)
 (fun _ => true)
 (fun _ _ => true)
 (true)
 (true)
 (true)
 (true)
 (fun _ => true)
 (fun _ _ ih => ih)
 (fun _ _ _ _ => false)
 (fun _ _ => false)
 (fun _ _ _ _ _ => false)
 (fun _ _ _ _ => false)
 (fun _ _ _ => false)
 (fun cs ih => (@Bool.rec (fun _ => _) (false) (kall oneV cs) (ih)))
 (fun _ _ => false)
 (true) (fun _ _ hx hxs => (@Bool.rec (fun _ => _) (false) (hxs) (hx))) v
def lvV (v : V) (n : Nat) : Bool := @V.rec (fun _ => (Nat) → Bool) (fun _ => (Nat) → Bool)
 (fun _ => true)
 (fun _ _ _ => true)
 (fun _ _ _ => true)
 (fun _ _ => true)
 (fun _ _ _ => true)
 (fun _ => true)
 (fun _ => true)
 (fun _ => true)
 (fun _ => true)
 (fun _ _ => true)
 (fun _ _ _ _ => true)
 (fun l _ _ _ n => Nat.ble (Nat.div l 4294967296) n)
 (fun l _ n => Nat.ble (Nat.div l 4294967296) n)
 (fun _ _ _ _ _ _ => true)
 (fun l _ _ _ n => Nat.ble (Nat.div l 4294967296) n)
 (fun _ _ ih n => ih n)
 (fun _ ih n => ih n)
 (fun _ ih n => ih n)
 (fun _ => true) (fun _ _ hx hxs n => (@Bool.rec (fun _ => _) (false) (hxs n) (hx n))) v n
def lvL (v : List V) (n : Nat) : Bool := @V.rec_1 (fun _ => (Nat) → Bool) (fun _ => (Nat) → Bool)
 (fun _ => true)
 (fun _ _ _ => true)
 (fun _ _ _ => true)
 (fun _ _ => true)
 (fun _ _ _ => true)
 (fun _ => true)
 (fun _ => true)
 (fun _ => true)
 (fun _ => true)
 (fun _ _ => true)
 (fun _ _ _ _ => true)
 (fun l _ _ _ n => Nat.ble (Nat.div l 4294967296) n)
 (fun l _ n => Nat.ble (Nat.div l 4294967296) n)
 (fun _ _ _ _ _ _ => true)
 (fun l _ _ _ n => Nat.ble (Nat.div l 4294967296) n)
 (fun _ _ ih n => ih n)
 (fun _ ih n => ih n)
 (fun _ ih n => ih n)
 (fun _ => true) (fun _ _ hx hxs n => (@Bool.rec (fun _ => _) (false) (hxs n) (hx n))) v n
def hlV (v : V)  : Bool := @V.rec (fun _ => Bool) (fun _ => Bool)
 (false)
 (fun _ _ => false)
 (fun _ _ => false)
 (fun _ => false)
 (fun _ _ => false)
 (false)
 (false)
 (false)
 (false)
 (fun _ => false)
 (fun _ _ _ => true)
 (fun _ _ _ _ => false)
 (fun _ _ => false)
 (fun _ _ _ _ _ => true)
 (fun _ _ _ _ => false)
 (fun _ _ ih => ih)
 (fun _ ih => ih)
 (fun _ ih => ih)
 (false) (fun _ _ hx hxs => (@Bool.rec (fun _ => _) (hxs) (true) (hx))) v
def hlL (v : List V)  : Bool := @V.rec_1 (fun _ => Bool) (fun _ => Bool)
 (false)
 (fun _ _ => false)
 (fun _ _ => false)
 (fun _ => false)
 (fun _ _ => false)
 (false)
 (false)
 (false)
 (false)
 (fun _ => false)
 (fun _ _ _ => true)
 (fun _ _ _ _ => false)
 (fun _ _ => false)
 (fun _ _ _ _ _ => true)
 (fun _ _ _ _ => false)
 (fun _ _ ih => ih)
 (fun _ ih => ih)
 (fun _ ih => ih)
 (false) (fun _ _ hx hxs => (@Bool.rec (fun _ => _) (hxs) (true) (hx))) v
def celW (v : V) (w : V) : List V := @V.rec (fun _ => (V) → List V) (fun _ => Unit)
 (fun w => [w])
 (fun _ _ w => [w])
 (fun _ _ w => [w])
 (fun _ w => [w])
 (fun _ _ w => [w])
 (fun w => [w])
 (fun w => [w])
 (fun w => [w])
 (fun w => [w])
 (fun _ w => [w])
 (fun _ _ _ w => [w])
 (fun _ _ _ _ w => [w])
 (fun _ _ w => [w])
 (fun _ _ _ _ _ w => [w])
 (fun _ _ _ _ w => [w])
 (fun _ _ _ w => [w])
 (fun cs _ _ => cs)
 (fun _ _ w => [w])
 () (fun _ _ _ _ => ()) v w
def V.cells (v : V) : List V := celW v v
def snW (v : V) (S : KS) (w : V) (k : V → List Nat → Option An) : Option An := @V.rec (fun _ => (KS) → (V) → (V → List Nat → Option An) → Option An) (fun _ => (KS) → (List V → List Nat → Option An) → Option An)
 (fun _ w k => k w [])
 (fun _ _ _ w k => k w [])
 (fun _ _ _ w k => k w [])
 (fun _ _ w k => k w [])
 (fun _ _ _ w k => k w [])
 (fun _ w k => k w [])
 (fun _ w k => k w [])
 (fun _ w k => k w [])
 (fun _ w k => k w [])
 (fun _ _ w k => k w [])
 (fun _ _ _ _ w k => k w [])
 (fun l g off n S _ k => gArr S l fun _ g1 sz _ xs => (@Bool.rec (fun _ => _) (none) ((@Bool.rec (fun _ => _) (none) (k (.lst sz (ktake n (kdrop off xs))) [l]) (Nat.ble (Nat.add off n) (klen xs)))) (Nat.beq g g1)))
 (fun _ _ _ w k => k w [])
 (fun _ _ _ _ _ _ w k => k w [])
 (fun _ _ _ _ _ w k => k w [])
 (fun _ _ _ _ w k => k w [])
 (fun _ ih S _ k => ih S fun ds ls => k (.agg ds) ls)
 (fun _ _ _ w k => k w [])
 (fun _ k => k [] []) (fun x _ hx hxs S k => hx S x fun y l => hxs S fun ys ls => k (y :: ys) (kapp l ls)) v S w k
def snL (v : List V) (S : KS) (k : List V → List Nat → Option An) : Option An := @V.rec_1 (fun _ => (KS) → (V) → (V → List Nat → Option An) → Option An) (fun _ => (KS) → (List V → List Nat → Option An) → Option An)
 (fun _ w k => k w [])
 (fun _ _ _ w k => k w [])
 (fun _ _ _ w k => k w [])
 (fun _ _ w k => k w [])
 (fun _ _ _ w k => k w [])
 (fun _ w k => k w [])
 (fun _ w k => k w [])
 (fun _ w k => k w [])
 (fun _ w k => k w [])
 (fun _ _ w k => k w [])
 (fun _ _ _ _ w k => k w [])
 (fun l g off n S _ k => gArr S l fun _ g1 sz _ xs => (@Bool.rec (fun _ => _) (none) ((@Bool.rec (fun _ => _) (none) (k (.lst sz (ktake n (kdrop off xs))) [l]) (Nat.ble (Nat.add off n) (klen xs)))) (Nat.beq g g1)))
 (fun _ _ _ w k => k w [])
 (fun _ _ _ _ _ _ w k => k w [])
 (fun _ _ _ _ _ w k => k w [])
 (fun _ _ _ _ w k => k w [])
 (fun _ ih S _ k => ih S fun ds ls => k (.agg ds) ls)
 (fun _ _ _ w k => k w [])
 (fun _ k => k [] []) (fun x _ hx hxs S k => hx S x fun y l => hxs S fun ys ls => k (y :: ys) (kapp l ls)) v S k
def snV (S : KS) (v : V) (k : V → List Nat → Option An) : Option An := snW v S v k
def kroO (o : KO) (S : KS) (l : Nat) : KS := @KO.rec (fun _ => KS → Nat → KS) (fun _ _ S _ => S) (fun ro g sz e xs S l => (@Bool.rec (fun _ => _) (kput S l (.arr true g sz e xs)) (S) (ro))) (fun S _ => S) o S l
def kro1 (S : KS) (l : Nat) : KS := @Option.rec KO (fun _ => KS → Nat → KS) (fun S _ => S) kroO (kget S l) S l
def kro (S : KS) (l : List Nat) : KS := @List.rec Nat (fun _ => KS → KS) (fun S => S) (fun l _ ih S => ih (kro1 S l)) l S
def frV (S : KS) (v : V) (k : V → KS → Option An) : Option An := snV S v fun u ls => (@Bool.rec (fun _ => _) (none) (k u (kro S ls)) (cl u))
def frL (xs : List V) (S : KS) (k : List V → KS → Option An) : Option An := @List.rec V (fun _ => KS → (List V → KS → Option An) → Option An) (fun S k => k [] S) (fun x _ ih S k => frV S x fun y S1 => ih S1 fun ys S2 => k (y :: ys) S2) xs S k
def locV (v : V) (n : Nat) : List Nat := @V.rec (fun _ => (Nat) → List Nat) (fun _ => (Nat) → List Nat)
 (fun _ => [])
 (fun _ _ _ => [])
 (fun _ _ _ => [])
 (fun _ _ => [])
 (fun _ _ _ => [])
 (fun _ => [])
 (fun _ => [])
 (fun _ => [])
 (fun _ => [])
 (fun _ _ => [])
 (fun _ _ _ _ => [])
 (fun l _ _ _ n => (@Bool.rec (fun _ => _) ([]) ([l]) (Nat.beq (Nat.div l 4294967296) n)))
 (fun l _ n => (@Bool.rec (fun _ => _) ([]) ([l]) (Nat.beq (Nat.div l 4294967296) n)))
 (fun _ _ _ _ _ _ => [])
 (fun l _ _ _ n => (@Bool.rec (fun _ => _) ([]) ([l]) (Nat.beq (Nat.div l 4294967296) n)))
 (fun _ _ ih n => ih n)
 (fun _ ih n => ih n)
 (fun _ ih n => ih n)
 (fun _ => []) (fun _ _ hx hxs n => kapp (hx n) (hxs n)) v n
def locL (v : List V) (n : Nat) : List Nat := @V.rec_1 (fun _ => (Nat) → List Nat) (fun _ => (Nat) → List Nat)
 (fun _ => [])
 (fun _ _ _ => [])
 (fun _ _ _ => [])
 (fun _ _ => [])
 (fun _ _ _ => [])
 (fun _ => [])
 (fun _ => [])
 (fun _ => [])
 (fun _ => [])
 (fun _ _ => [])
 (fun _ _ _ _ => [])
 (fun l _ _ _ n => (@Bool.rec (fun _ => _) ([]) ([l]) (Nat.beq (Nat.div l 4294967296) n)))
 (fun l _ n => (@Bool.rec (fun _ => _) ([]) ([l]) (Nat.beq (Nat.div l 4294967296) n)))
 (fun _ _ _ _ _ _ => [])
 (fun l _ _ _ n => (@Bool.rec (fun _ => _) ([]) ([l]) (Nat.beq (Nat.div l 4294967296) n)))
 (fun _ _ ih n => ih n)
 (fun _ ih n => ih n)
 (fun _ ih n => ih n)
 (fun _ => []) (fun _ _ hx hxs n => kapp (hx n) (hxs n)) v n
def kfil (xs : List Nat) (x : Nat) : List Nat := @List.rec Nat (fun _ => Nat → List Nat) (fun _ => []) (fun y _ ih x => (@Bool.rec (fun _ => _) (y :: ih x) (ih x) (Nat.beq y x))) xs x
def kdd (xs : List Nat) : List Nat := @List.rec Nat (fun _ => List Nat) [] (fun x _ ih => x :: kfil ih x) xs
def kpos (xs : List Nat) (l : Nat) : Option Nat := @List.rec Nat (fun _ => Nat → Option Nat) (fun _ => none) (fun x _ ih l => (@Bool.rec (fun _ => _) (@Option.rec Nat (fun _ => Option Nat) none (fun j => some (Nat.succ j)) (ih l)) (some 0) (Nat.beq x l))) xs l
def rnW (v : V) (w : V) (S : KS) (f : Nat → Option Nat) (n : Nat) : V := @V.rec (fun _ => (V) → (KS) → (Nat → Option Nat) → (Nat) → V) (fun _ => (KS) → (Nat → Option Nat) → (Nat) → List V)
 (fun w _ _ _ => w)
 (fun _ _ w _ _ _ => w)
 (fun _ _ w _ _ _ => w)
 (fun _ w _ _ _ => w)
 (fun _ _ w _ _ _ => w)
 (fun w _ _ _ => w)
 (fun w _ _ _ => w)
 (fun w _ _ _ => w)
 (fun w _ _ _ => w)
 (fun _ w _ _ _ => w)
 (fun _ _ _ w _ _ _ => w)
 (fun l g off len _ S f n => @Option.rec Nat (fun _ => V) .u (fun m => (@Bool.rec (fun _ => _) (.own m g off len) ((@Bool.rec (fun _ => _) (.u) (.own m 0 off len) (genIs S l g))) (Nat.beq (Nat.div l 4294967296) n))) (f l))
 (fun l off _ _ f _ => @Option.rec Nat (fun _ => V) .u (fun m => .ptr m off) (f l))
 (fun _ _ _ _ _ w _ _ _ => w)
 (fun l g i off _ S f n => @Option.rec Nat (fun _ => V) .u (fun m => (@Bool.rec (fun _ => _) (.aptr m g i off) ((@Bool.rec (fun _ => _) (.u) (.aptr m 0 i off) (genIs S l g))) (Nat.beq (Nat.div l 4294967296) n))) (f l))
 (fun h _ ih _ S f n => .clo h (ih S f n))
 (fun _ ih _ S f n => .agg (ih S f n))
 (fun _ ih _ S f n => .tup (ih S f n))
 (fun _ _ _ => []) (fun x _ hx hxs S f n => hx x S f n :: hxs S f n) v w S f n
def rnL (v : List V) (S : KS) (f : Nat → Option Nat) (n : Nat) : List V := @V.rec_1 (fun _ => (V) → (KS) → (Nat → Option Nat) → (Nat) → V) (fun _ => (KS) → (Nat → Option Nat) → (Nat) → List V)
 (fun w _ _ _ => w)
 (fun _ _ w _ _ _ => w)
 (fun _ _ w _ _ _ => w)
 (fun _ w _ _ _ => w)
 (fun _ _ w _ _ _ => w)
 (fun w _ _ _ => w)
 (fun w _ _ _ => w)
 (fun w _ _ _ => w)
 (fun w _ _ _ => w)
 (fun _ w _ _ _ => w)
 (fun _ _ _ w _ _ _ => w)
 (fun l g off len _ S f n => @Option.rec Nat (fun _ => V) .u (fun m => (@Bool.rec (fun _ => _) (.own m g off len) ((@Bool.rec (fun _ => _) (.u) (.own m 0 off len) (genIs S l g))) (Nat.beq (Nat.div l 4294967296) n))) (f l))
 (fun l off _ _ f _ => @Option.rec Nat (fun _ => V) .u (fun m => .ptr m off) (f l))
 (fun _ _ _ _ _ w _ _ _ => w)
 (fun l g i off _ S f n => @Option.rec Nat (fun _ => V) .u (fun m => (@Bool.rec (fun _ => _) (.aptr m g i off) ((@Bool.rec (fun _ => _) (.u) (.aptr m 0 i off) (genIs S l g))) (Nat.beq (Nat.div l 4294967296) n))) (f l))
 (fun h _ ih _ S f n => .clo h (ih S f n))
 (fun _ ih _ S f n => .agg (ih S f n))
 (fun _ ih _ S f n => .tup (ih S f n))
 (fun _ _ _ => []) (fun x _ hx hxs S f n => hx x S f n :: hxs S f n) v S f n
def rnV (S : KS) (f : Nat → Option Nat) (n : Nat) (v : V) : V := rnW v v S f n
def rnO (o : KO) (S : KS) (f : Nat → Option Nat) (n : Nat) : KO := @KO.rec (fun _ => KS → (Nat → Option Nat) → Nat → KO) (fun bt cs S f n => .box bt (rnL cs S f n)) (fun ro _ sz e xs _ _ _ => .arr ro 0 sz e xs) (fun _ _ _ => .gone) o S f n
def mkF (L : Nat) (kl : List Nat) (l : Nat) : Option Nat := (@Bool.rec (fun _ => _) (some l) ((@Bool.rec (fun _ => _) (none) (some l) (kin (Nat.mod l 4294967296) kl))) (Nat.beq (Nat.div l 4294967296) L))
def fmk2 (F : KT) (S0 : KS) (L : Nat) (kl : List Nat) : KT := @List.rec (Nat × KO) (fun _ => KS → Nat → List Nat → KT) (fun _ _ _ => []) (fun e r ih S0 L kl => (@Bool.rec (fun _ => _) ((@Bool.rec (fun _ => _) (ih S0 L kl) (e :: r) (Nat.blt (lev e.1) L))) ((@Bool.rec (fun _ => _) (ih S0 L kl) ((e.1, rnO e.2 S0 (mkF L kl) L) :: ih S0 L kl) (kin (Nat.mod e.1 4294967296) kl))) (Nat.beq (lev e.1) L))) F S0 L kl
def fmk (F : KT) (S0 : KS) (L : Nat) (kl : List Nat) : KT := @List.rec (Nat × KO) (fun _ => KS → Nat → List Nat → KT) (fun _ _ _ => []) (fun e r ih S0 L kl => (@Bool.rec (fun _ => _) (fmk2 (e :: r) S0 L kl) (e :: ih S0 L kl) (Nat.blt L (lev e.1)))) F S0 L kl
def mkS1 (F : KT) (S S0 : KS) (L : Nat) (kl : List Nat) : KS := @List.rec (Nat × KO) (fun _ => KS → KS → Nat → List Nat → KS) (fun S _ _ _ => S) (fun a F _ S S0 L kl => cput S (Nat.div L 32) (fmk (a :: F) S0 L kl)) F S S0 L kl
def mkS (S : KS) (S0 : KS) (L : Nat) (kl : List Nat) : KS := mkS1 (cget S (Nat.div L 32)) S S0 L kl
def mkL (lv : List Nat) (L : Nat) (kl : List Nat) (S : KS) (s : SL) : SL := @List.rec Nat (fun _ => Nat → List Nat → KS → SL → SL) (fun _ _ _ _ => .nil) (fun d _ ih L kl S s => .cons d (rnV S (mkF L kl) L (kg s d)) (ih L kl S s)) lv L kl S s
def kpL (lv : List Nat) (s : SL) : SL := @List.rec Nat (fun _ => SL → SL) (fun _ => .nil) (fun d _ ih s => .cons d (kg s d) (ih s)) lv s
def snA (sn : List Nat) (S : KS) (s : SL) (k : SL → List Nat → Option An) : Option An := @List.rec Nat (fun _ => KS → SL → (SL → List Nat → Option An) → Option An) (fun _ s k => k s []) (fun d _ ih S s k => snV S (kg s d) fun u ls => ih S s fun s1 l1 => k (.cons d u s1) (kapp ls l1)) sn S s k
def bxK1 (o : KO) (l : Nat) (S : KS) (k : KS → Option An) : Option An := @KO.rec (fun _ => Nat → KS → (KS → Option An) → Option An) (fun bt cs l S k => snL cs S fun us ls => k (kput (kro S ls) l (.box bt us))) (fun _ _ _ _ _ _ S k => k S) (fun _ S k => k S) o l S k
def bxK (sn : List Nat) (L : Nat) (S : KS) (k : KS → Option An) : Option An := @List.rec Nat (fun _ => Nat → KS → (KS → Option An) → Option An) (fun _ S k => k S) (fun d _ ih L S k => (@Bool.rec (fun _ => _) ((@Bool.rec (fun _ => _) (none) (@Option.rec KO (fun _ => Nat → KS → (KS → Option An) → Option An) (fun _ S k => k S) bxK1 (kget S (Nat.add (Nat.mul L 4294967296) (Nat.sub d 10000000))) (Nat.add (Nat.mul L 4294967296) (Nat.sub d 10000000)) S (fun S1 => ih L S1 k)) (Nat.blt d 4000000000))) (ih L S k) (Nat.blt d 10000000))) sn L S k
def hdK (h : Head) (L : Nat) (s : SL) (S : KS) (k : SL → KS → Option An) : Option An :=
 @List.rec Nat (fun _ => Head → Nat → SL → KS → (SL → KS → Option An) → Option An) (fun h L s S k => k (mkL h.lv L h.kl S s) (mkS S S L h.kl))
  (fun _ _ _ h L s S0 k => bxK h.sn L S0 fun S => snA h.sn S s fun s1 ls => k (mkL h.lv L h.kl (kro S ls) s1) (mkS (kro S ls) (kro S ls) L h.kl)) h.sn h L s S k
def lvK (h : Head) (L : Nat) (s : SL) (S : KS) (k : SL → KS → Option An) : Option An := (@Bool.rec (fun _ => _) (k (kpL h.lv s) S) (hdK h L s S k) (h.fu))
def pkF (n : Nat) (ls : List Nat) (key : Nat) (l : Nat) : Option Nat := (@Bool.rec (fun _ => _) (some l) (@Option.rec Nat (fun _ => Option Nat) none (fun j => some (Nat.add key j)) (kpos ls l)) (Nat.beq (Nat.div l 4294967296) n))
def pkOk1 (o : KO) (n : Nat) : Bool := @KO.rec (fun _ => Nat → Bool) (fun _ cs n => lvL cs (Nat.pred n)) (fun _ _ _ _ _ _ => true) (fun _ => false) o n
def pkOk (ls : List Nat) (n : Nat) (S : KS) : Bool := @List.rec Nat (fun _ => Nat → KS → Bool) (fun _ _ => true) (fun q _ ih n S => (@Bool.rec (fun _ => _) (false) (ih n S) (@Option.rec KO (fun _ => Nat → Bool) (fun _ => false) pkOk1 (kget S q) n))) ls n S
def kadd (r : List Nat) (j n : Nat) (ls : List Nat) (key : Nat) (S1 S : KS) : KS := @List.rec Nat (fun _ => Nat → Nat → List Nat → Nat → KS → KS → KS) (fun _ _ _ _ _ S => S) (fun q _ ih j n ls key S1 S =>
 @Option.rec KO (fun _ => KS) (ih (Nat.succ j) n ls key S1 S) (fun o => kput (ih (Nat.succ j) n ls key S1 S) (Nat.add key j) (rnO o S1 (pkF n ls key) n)) (kget S1 q)) r j n ls key S1 S
def packK (n : Nat) (r : V) (S : KS) (k : V → KS → Option An) : Option An :=
 @List.rec Nat (fun _ => Nat → V → KS → (V → KS → Option An) → Option An) (fun n r S k => (@Bool.rec (fun _ => _) (none) (k (rnV S (pkF n [] 0) n r) (ktr S (Nat.pred n))) (lvV r n)))
  (fun l ls _ n r S k => (@Bool.rec (fun _ => _) (none) ((@Bool.rec (fun _ => _) (none) ((@Bool.rec (fun _ => _) (none) (k (rnV S (pkF n (l :: ls) (Nat.mul n 4294967296)) n r) (kadd (l :: ls) 0 n (l :: ls) (Nat.mul n 4294967296) S (ktr S (Nat.pred n)))) (Nat.blt (klen (l :: ls)) 4294967296))) (lvV r n))) (pkOk (l :: ls) n S))) (kdd (locV r n)) n r S k
def snRW (v : V) (S : KS) (w : V) (k : V → List Nat → Option An) : Option An := @V.rec (fun _ => (KS) → (V) → (V → List Nat → Option An) → Option An) (fun _ => Unit)
 (fun S w k => snW w S w k)
 (fun _ _ S w k => snW w S w k)
 (fun _ _ S w k => snW w S w k)
 (fun _ S w k => snW w S w k)
 (fun _ _ S w k => snW w S w k)
 (fun S w k => snW w S w k)
 (fun S w k => snW w S w k)
 (fun S w k => snW w S w k)
 (fun S w k => snW w S w k)
 (fun _ S w k => snW w S w k)
 (fun _ _ _ S w k => snW w S w k)
 (fun _ _ _ _ S w k => snW w S w k)
 (fun _ _ S w k => snW w S w k)
 (fun _ _ _ _ _ S w k => snW w S w k)
 (fun _ _ _ _ S w k => snW w S w k)
 (fun _ _ _ S w k => snW w S w k)
 (fun _ _ S w k => snW w S w k)
 (fun cs _ S _ k => snL cs S fun ds ls => k (.tup ds) ls)
 () (fun _ _ _ _ => ()) v S w k
def handK (z : Bool) (n : Nat) (r : V) (S : KS) (k : V → KS → Option An) : Option An := (@Bool.rec (fun _ => _) (packK n r S k) (snRW r S r (fun u ls => packK n u (kro S ls) k)) (z))
def snArgs (xs : List V) (om : List Nat) (j : Nat) (S : KS) (k : List V → List Nat → Option An) : Option An := @List.rec V (fun _ => List Nat → Nat → KS → (List V → List Nat → Option An) → Option An) (fun _ _ _ k => k [] []) (fun x _ ih om j S k => (@Bool.rec (fun _ => _) (snV S x fun y l => ih om (Nat.succ j) S fun ys ls => k (y :: ys) (kapp l ls)) (ih om (Nat.succ j) S (fun ys ls => k (x :: ys) ls)) (kin j om))) xs om j S k
def arrL1 (o : KO) : Bool := @KO.rec (fun _ => Bool) (fun _ cs => hlL cs) (fun ro _ _ _ xs => (@Bool.rec (fun _ => _) (hlL xs) (true) (ro))) false o
def arrL (ls : List Nat) (S : KS) : Bool := @List.rec Nat (fun _ => KS → Bool) (fun _ => false) (fun q _ ih S => (@Bool.rec (fun _ => _) (ih S) (true) (@Option.rec KO (fun _ => Bool) false arrL1 (kget S q)))) ls S
def freeAt (n : Nat) (S : KS) (key : Nat) : Bool := @Nat.rec (fun _ => KS → Nat → Bool) (fun _ _ => true) (fun j ih S key => (@Bool.rec (fun _ => _) (false) (ih S key) (fresh S (Nat.add key j)))) n S key
def takeK (n L : Nat) (d : Option Nat) (r : V) (S1 S : KS) (k : V → KS → Option An) : Option An :=
 @List.rec Nat (fun _ => Nat → Nat → Option Nat → V → KS → KS → (V → KS → Option An) → Option An) (fun n L d r S1 S k => (@Bool.rec (fun _ => _) (none) (k r S) (lvV r n)))
  (fun l ls _ n L d r S1 S k => @Option.rec Nat (fun _ => Option An) none (fun d => (@Bool.rec (fun _ => _) (none) ((@Bool.rec (fun _ => _) (none) ((@Bool.rec (fun _ => _) (none) ((@Bool.rec (fun _ => _) (none) ((@Bool.rec (fun _ => _) (none) (k (rnV S1 (pkF n (l :: ls) (Nat.add (Nat.mul L 4294967296) (Nat.mul 1000 (Nat.succ d)))) n r) (kadd (l :: ls) 0 n (l :: ls) (Nat.add (Nat.mul L 4294967296) (Nat.mul 1000 (Nat.succ d))) S1 S)) (freeAt (klen (l :: ls)) S (Nat.add (Nat.mul L 4294967296) (Nat.mul 1000 (Nat.succ d)))))) (Nat.blt d 1000000))) (Nat.ble (klen (l :: ls)) 1000))) (lvV r n))) (pkOk (l :: ls) n S1))) d) (kdd (locV r n)) n L d r S1 S k
def keepK (ls : List Nat) (r : V) (S1 S : KS) : KS := @List.rec Nat (fun _ => V → KS → KS → KS) (fun _ _ S => S) (fun l ls _ r S1 S => (@Bool.rec (fun _ => _) (S) (kro S (l :: ls)) ((@Bool.rec (fun _ => _) (arrL (kdd (locV r 1)) S1) (true) (hlV r))))) ls r S1 S
structure Cf where
 b : List Nat
 om : Nat → List Nat
abbrev CallK := Nat → Nat → List V → KS → (V → KS → Option An) → Option An
def flay (F G : KT) (L : Nat) : KT := @List.rec (Nat × KO) (fun _ => KT → Nat → KT) (fun G _ => G) (fun e _ ih G L => (@Bool.rec (fun _ => _) (e :: ih G L) (G) (Nat.ble (lev e.1) L))) F G L
def klay2 (F : KT) (c L : Nat) (S2 : KS) : KS := cput S2 c (flay F (cget S2 c) L)
def klay (S S1 : KS) (L : Nat) : KS := @List.rec (Nat × KT) (fun _ => KS → Nat → KS) (fun S1 L => ktr S1 L) (fun e _ ih S1 L => (@Bool.rec (fun _ => _) ((@Bool.rec (fun _ => _) (e :: ih S1 L) (ktr S1 L) (Nat.blt e.1 (Nat.div L 32)))) (klay2 e.2 e.1 L (ktr S1 L)) (Nat.beq e.1 (Nat.div L 32)))) S S1 L
def lowK (cf : Cf) (L g : Nat) (as : List V) : Bool := (@Bool.rec (fun _ => _) (false) ((@Bool.rec (fun _ => _) (false) (lvL as (Nat.sub L 1)) (Nat.blt 0 L))) (kin 1000 (cf.om g)))
def lowTK (L : Nat) (d : Option Nat) (r : V) (S1 S : KS) (k : V → KS → Option An) : Option An :=
 (@Bool.rec (fun _ => _) ((@Bool.rec (fun _ => _) (none) (takeK L L d r S1 S (fun u S2 => (@Bool.rec (fun _ => _) (k u S2) (none) (lvV u (Nat.sub L 1))))) (Nat.ble (klen (kdd (locV r L))) 1))) (k r S) (lvV r (Nat.sub L 1)))
def plK (L : Nat) (om : List Nat) (as caps : List V) : Bool := (@Bool.rec (fun _ => _) (false) ((@Bool.rec (fun _ => _) (false) ((@Bool.rec (fun _ => _) (true) ((@Bool.rec (fun _ => _) (true) (false) (Nat.ble 1 L))) (kin 3000 om))) (kempty caps))) (clL as))
def ptrOf (v : V)  : Option Nat := @V.rec (fun _ => Option Nat) (fun _ => Unit)
 (none)
 (fun _ _ => none)
 (fun _ _ => none)
 (fun _ => none)
 (fun _ _ => none)
 (none)
 (none)
 (none)
 (none)
 (fun _ => none)
 (fun _ _ _ => none)
 (fun _ _ _ _ => none)
 (fun l _ => some l)
 (fun _ _ _ _ _ => none)
 (fun _ _ _ _ => none)
 (fun _ _ _ => none)
 (fun _ _ => none)
 (fun _ _ => none)
 () (fun _ _ _ _ => ()) v
def ptr1K (caps : List V) : Option Nat := @List.rec V (fun _ => Option Nat) none (fun v r _ => @List.rec V (fun _ => Option Nat) (ptrOf v) (fun _ _ _ => none) r) caps
def shK (om : List Nat) (as caps : List V) : Option Nat := (@Bool.rec (fun _ => _) (none) ((@Bool.rec (fun _ => _) (none) (ptr1K caps) (clL as))) (kin 2000 om))
def boxK1 (o : KO) : Bool := @KO.rec (fun _ => Bool) (fun _ cs => clL cs) (fun _ _ _ _ _ => false) false o
def boxKB (S : KS) (l : Nat) : Bool := @Option.rec KO (fun _ => Bool) false boxK1 (kget S l)
def konly (l : Nat) (S : KS) : KS := @Option.rec KO (fun _ => KS) [] (fun o => kput [] l o) (kget S l)
def klay1 (l : Nat) (S1 S : KS) : KS := @Option.rec KO (fun _ => KS) S (fun o => kput S l o) (kget S1 l)
def goKW (call : CallK) (L : Nat) (d : Option Nat) (S : KS) (g : Nat) (as : List V) (k : V → KS → Option An) (o : Option Nat) : Option An :=
 @Option.rec Nat (fun _ => Option An) (call L g as S (fun r S1 => takeK (Nat.succ L) L d r S1 (ktr S1 L) k)) (fun l => (@Bool.rec (fun _ => _) (none) (call L g as (konly l S) (fun r S1 => (@Bool.rec (fun _ => _) (none) ((@Bool.rec (fun _ => _) (none) (k r (klay1 l S1 S)) (boxKB S1 l))) (cl r)))) (boxKB S l))) o
def goK (call : CallK) (cf : Cf) (L : Nat) (d : Option Nat) (S : KS) (g : Nat) (args caps : List V) (k : V → KS → Option An) : Option An :=
 (@Bool.rec (fun _ => _) (snArgs args (cf.om g) 0 S fun as ls => (@Bool.rec (fun _ => _) ((@Bool.rec (fun _ => _) (goKW call L d (kro S ls) g (kapp as caps) k (shK (cf.om g) as caps)) (call (Nat.sub L 1) g (kapp as caps) (ktr (kro S ls) (Nat.sub L 1)) (fun r S1 => lowTK L d r S1 (klay (kro S ls) S1 (Nat.sub L 1)) k)) (lowK cf L g (kapp as caps)))) (call 0 g as [] (fun r S1 => takeK 1 L d r S1 (keepK ls r S1 S) k)) (plK L (cf.om g) as caps))) (none) (Nat.beq g 1000000000))
inductive O where
 | t (n : Nat)
 | p (c n : Nat)
 | m (c n : Nat)
 | b (q : Bool)
 | s (len n : Nat)
 | np | ns | nf | ni
 | f (n : Nat)
def O.t' : O → Operand
 | .t n => .tmp n
 | .p c n => .const (.int (kd c) (n : Int))
 | .m c n => .const (.int (kd c) (Int.negSucc n))
 | .b q => .const (.bool q)
 | .s len n => .const (.string (bstr len n))
 | .np => .const (.pointer none)
 | .ns => .const (.slice none 0 0)
 | .nf => .const .nilFunc
 | .ni => .const .nilIface
 | .f n => .func n
inductive Y where
 | mv (x : O)
 | pick (c a b : O)
 | bin (op : BinOp) (x y : O)
 | beq (ne : Bool) (x y : O)
 | not (x : O)
 | neg (x : O)
 | lenS (x : O)
 | idxS (x i : O)
 | cutS (x : O) (lo hi : Option O)
 | cv (c : Nat) (x : O)
 | i2s (x : O)
 | mm (mx : Bool) (x y : O)
 | len (x : O)
 | capn (x : O)
 | load (ag : Bool) (n : Nat) (a : O)
 | store (n : Nat) (a v : O)
 | faddr (o : Nat) (a : O)
 | field (o n : Nat) (ag : Bool) (x : O)
 | aidx (ag : Bool) (sz n : Nat) (x i : O)
 | iaddr (sz : Nat) (x i : O)
 | iaddrA (len sz : Nat) (x i : O)
 | mk (sz : Nat) (e : Nat) (z : V) (l c : O)
 | bsl (e : Nat) (sz : Nat) (parts : List O)
 | app (e : Nat) (sz : Nat) (x y : O)
 | cpy (x y : O)
 | slc (sz : Nat) (x : O) (lo hi mx : Option O)
 | bld (ps : List (Nat × Nat)) (z : List V) (parts : List (Nat × O))
 | alloc (e : Nat) (z : List V)
 | box (e : Nat) (x : O)
 | s2b (x : O)
 | b2s (x : O)
 | mkf (f : Nat) (caps : List O)
 | ext (x : O) (j : Nat)
 | call (f : O) (args : List O)
 | nck (x : O)
 | bad
 | peq (ng : Bool) (x y : O)
 | toU (x : O)
 | ofU (u : List Nat) (n : Nat) (x : O)
 | apps (e : Nat) (x y : O)
 | appz (e : Nat) (sz : Nat) (z : V) (x y : O)
 | usd (x : O)
 | ustr (e : Nat) (p n : O)
def oO : Option O → Option Operand
 | some x => some x.t'
 | none => none
def Y.x : Y → X
 | .mv x => .mv x.t'
 | .pick c a b => .pick c.t' a.t' b.t'
 | .bin op x y => .bin op x.t' y.t'
 | .beq ne x y => .beq ne x.t' y.t'
 | .not x => .not x.t'
 | .neg x => .neg x.t'
 | .lenS x => .lenS x.t'
 | .idxS x i => .idxS x.t' i.t'
 | .cutS x lo hi => .cutS x.t' (oO lo) (oO hi)
 | .cv c x => .cv (kd c) x.t'
 | .i2s x => .i2s x.t'
 | .mm mx x y => .mm mx x.t' y.t'
 | .len x => .len x.t'
 | .capn x => .capn x.t'
 | .load ag n a => .load ag n a.t'
 | .store n a v => .store n a.t' v.t'
 | .faddr o a => .faddr o a.t'
 | .field o n ag x => .field o n ag x.t'
 | .aidx ag sz n x i => .aidx ag sz n x.t' i.t'
 | .iaddr sz x i => .iaddr sz x.t' i.t'
 | .iaddrA n sz x i => .iaddrA n sz x.t' i.t'
 | .mk sz e z l c => .mk sz e z.t l.t' c.t'
 | .bsl e sz ps => .bsl e sz (ps.map O.t')
 | .app e sz x y => .app e sz x.t' y.t'
 | .cpy x y => .cpy x.t' y.t'
 | .slc sz x lo hi mx => .slc sz x.t' (oO lo) (oO hi) (oO mx)
 | .bld ps z parts => .bld ps (V.tL z) (parts.map fun p => (p.1, p.2.t'))
 | .alloc e z => .alloc e (V.tL z)
 | .box e x => .box e x.t'
 | .s2b x => .s2b x.t'
 | .b2s x => .b2s x.t'
 | .mkf f caps => .mkf f (caps.map O.t')
 | .ext x j => .ext x.t' j
 | .call f args => .call f.t' (args.map O.t')
 | .nck x => .nck x.t'
 | .bad => .bad
 | .peq ng x y => .peq ng x.t' y.t'
 | .toU x => .toU x.t'
 | .ofU u n x => .ofU u n x.t'
 | .apps e x y => .apps e x.t' y.t'
 | .appz e sz z x y => .appz e sz z.t x.t' y.t'
 | .usd x => .usd x.t'
 | .ustr e p n => .ustr e p.t' n.t'
inductive KL where
 | nil
 | o (d : Nat) (x : Y) (r : KL)
 | on (x : Y) (r : KL)
 | og (d j : Nat) (w : Bool) (x : Y) (r : KL)
 | ong (j : Nat) (w : Bool) (x : Y) (r : KL)
def KL.l : KL → List LOp
 | .nil => []
 | .o d x r => ⟨some d, none, x.x⟩ :: r.l
 | .on x r => ⟨none, none, x.x⟩ :: r.l
 | .og d j w x r => ⟨some d, some (j, w), x.x⟩ :: r.l
 | .ong j w x r => ⟨none, some (j, w), x.x⟩ :: r.l
inductive KC where
 | skip
 | ops (l : KL)
 | drq (l : KL) (k : List Foot)
 | seq (a b : KC)
 | cond (c : O) (a b : KC)
 | block (id : Nat) (c : KC)
 | loop (h : Head) (c : KC)
 | exit (h : Head) (id : Nat)
 | ret (h : Head)
@[reducible] def O.i (n : Nat) : O := .p 9223372036854775808 n
@[reducible] def KL.m (d s : Nat) (r : KL) : KL := .o d (.mv (.t s)) r
@[reducible] def KL.e (d : Nat) (x : Y) : KL := .o d x .nil
@[reducible] def KC.q (l : KL) (b : KC) : KC := .seq (.ops l) b
@[reducible] def KC.v (l : List Nat) : KC := .ret ⟨[], l, l, true⟩
@[reducible] def KC.w (l : List Nat) : KC := .ret ⟨[], l, [], false⟩
def KC.c : KC → LC
 | .skip => .skip
 | .ops l => .ops l.l
 | .drq l k => .drq l.l k
 | .seq a b => .seq a.c b.c
 | .cond c a b => .cond c.t' a.c b.c
 | .block id c => .block id c.c
 | .loop h c => .loop h c.c
 | .exit h id => .exit h id
 | .ret h => .ret h
inductive KR where
 | tmp (t : Nat)
 | cell (a : Nat) (ag : Bool) (n : Nat)
def KR.r : KR → RV
 | .tmp t => .tmp t
 | .cell a ag n => .cell a ag n
structure KF where
 n : Nat
 c : KC
 r : List KR
 z : Bool
def KF.f (F : KF) : LF := ⟨F.n, F.c.c, F.r.map KR.r, F.z⟩
def eO (s : SL) (x : O) : V := @O.rec (fun _ => SL → V) (fun n s => kg s n) (fun c n _ => .p c n) (fun c n _ => .m c n) (fun q _ => .b q) (fun l n _ => .s l n) (fun _ => .np) (fun _ => .ns) (fun _ => .nf) (fun _ => .ni) (fun f _ => .fn f) x s
def eL (xs : List O) (s : SL) : List V := @List.rec O (fun _ => SL → List V) (fun _ => []) (fun x _ ih s => eO s x :: ih s) xs s
def vI (c : Nat) (n : Int) : V := @Int.rec (fun _ => V) (fun n => .p c n) (fun n => .m c n) n
def wr (c n : Nat) : V := (@Bool.rec (fun _ => _) ((@Bool.rec (fun _ => _) (vI c ((kd c).wrap (Int.ofNat n))) ((@Bool.rec (fun _ => _) (vI c ((kd c).wrap (Int.ofNat n))) (.p c n) (okc c))) (Nat.blt n c))) (.p c n) (Nat.blt n 128))
def vInt (v : V) (k : Nat → Int → Option An) : Option An := @V.rec (fun _ => (Nat → Int → Option An) → Option An) (fun _ => Unit)
 (fun _ => none)
 (fun c n k => k c (Int.ofNat n))
 (fun c n k => k c (Int.negSucc n))
 (fun _ _ => none)
 (fun _ _ _ => none)
 (fun _ => none)
 (fun _ => none)
 (fun _ => none)
 (fun _ => none)
 (fun _ _ => none)
 (fun _ _ _ _ => none)
 (fun _ _ _ _ _ => none)
 (fun _ _ _ => none)
 (fun _ _ _ _ _ _ => none)
 (fun _ _ _ _ _ => none)
 (fun _ _ _ _ => none)
 (fun _ _ _ => none)
 (fun _ _ _ => none)
 () (fun _ _ _ _ => ()) v k
def onP (v : V) (k : Nat → Nat → Option An) : Option An := @V.rec (fun _ => (Nat → Nat → Option An) → Option An) (fun _ => Unit)
 (fun _ => none)
 (fun c n k => k c n)
 (fun _ _ _ => none)
 (fun _ _ => none)
 (fun _ _ _ => none)
 (fun _ => none)
 (fun _ => none)
 (fun _ => none)
 (fun _ => none)
 (fun _ _ => none)
 (fun _ _ _ _ => none)
 (fun _ _ _ _ _ => none)
 (fun _ _ _ => none)
 (fun _ _ _ _ _ _ => none)
 (fun _ _ _ _ _ => none)
 (fun _ _ _ _ => none)
 (fun _ _ _ => none)
 (fun _ _ _ => none)
 () (fun _ _ _ _ => ()) v k
def onB (v : V) (k : Bool → Option An) : Option An := @V.rec (fun _ => (Bool → Option An) → Option An) (fun _ => Unit)
 (fun _ => none)
 (fun _ _ _ => none)
 (fun _ _ _ => none)
 (fun q k => k q)
 (fun _ _ _ => none)
 (fun _ => none)
 (fun _ => none)
 (fun _ => none)
 (fun _ => none)
 (fun _ _ => none)
 (fun _ _ _ _ => none)
 (fun _ _ _ _ _ => none)
 (fun _ _ _ => none)
 (fun _ _ _ _ _ _ => none)
 (fun _ _ _ _ _ => none)
 (fun _ _ _ _ => none)
 (fun _ _ _ => none)
 (fun _ _ _ => none)
 () (fun _ _ _ _ => ()) v k
def onS (v : V) (k : Nat → Nat → Option An) : Option An := @V.rec (fun _ => (Nat → Nat → Option An) → Option An) (fun _ => Unit)
 (fun _ => none)
 (fun _ _ _ => none)
 (fun _ _ _ => none)
 (fun _ _ => none)
 (fun l n k => k l n)
 (fun _ => none)
 (fun _ => none)
 (fun _ => none)
 (fun _ => none)
 (fun _ _ => none)
 (fun _ _ _ _ => none)
 (fun _ _ _ _ _ => none)
 (fun _ _ _ => none)
 (fun _ _ _ _ _ _ => none)
 (fun _ _ _ _ _ => none)
 (fun _ _ _ _ => none)
 (fun _ _ _ => none)
 (fun _ _ _ => none)
 () (fun _ _ _ _ => ()) v k
def onAgg (v : V) (k : List V → Option An) : Option An := @V.rec (fun _ => (List V → Option An) → Option An) (fun _ => Unit)
 (fun _ => none)
 (fun _ _ _ => none)
 (fun _ _ _ => none)
 (fun _ _ => none)
 (fun _ _ _ => none)
 (fun _ => none)
 (fun _ => none)
 (fun _ => none)
 (fun _ => none)
 (fun _ _ => none)
 (fun _ _ _ _ => none)
 (fun _ _ _ _ _ => none)
 (fun _ _ _ => none)
 (fun _ _ _ _ _ _ => none)
 (fun _ _ _ _ _ => none)
 (fun _ _ _ _ => none)
 (fun cs _ k => k cs)
 (fun _ _ _ => none)
 () (fun _ _ _ _ => ()) v k
def onTup (v : V) (k : List V → Option An) : Option An := @V.rec (fun _ => (List V → Option An) → Option An) (fun _ => Unit)
 (fun _ => none)
 (fun _ _ _ => none)
 (fun _ _ _ => none)
 (fun _ _ => none)
 (fun _ _ _ => none)
 (fun _ => none)
 (fun _ => none)
 (fun _ => none)
 (fun _ => none)
 (fun _ _ => none)
 (fun _ _ _ _ => none)
 (fun _ _ _ _ _ => none)
 (fun _ _ _ => none)
 (fun _ _ _ _ _ _ => none)
 (fun _ _ _ _ _ => none)
 (fun _ _ _ _ => none)
 (fun _ _ _ => none)
 (fun cs _ k => k cs)
 () (fun _ _ _ _ => ()) v k
def onPtr (v : V) (k : Nat → Nat → Option An) : Option An := @V.rec (fun _ => (Nat → Nat → Option An) → Option An) (fun _ => Unit)
 (fun _ => none)
 (fun _ _ _ => none)
 (fun _ _ _ => none)
 (fun _ _ => none)
 (fun _ _ _ => none)
 (fun _ => none)
 (fun _ => none)
 (fun _ => none)
 (fun _ => none)
 (fun _ _ => none)
 (fun _ _ _ _ => none)
 (fun _ _ _ _ _ => none)
 (fun l off k => k l off)
 (fun _ _ _ _ _ _ => none)
 (fun _ _ _ _ _ => none)
 (fun _ _ _ _ => none)
 (fun _ _ _ => none)
 (fun _ _ _ => none)
 () (fun _ _ _ _ => ()) v k
def onOwn (v : V) (k : Nat → Nat → Nat → Nat → Option An) : Option An := @V.rec (fun _ => (Nat → Nat → Nat → Nat → Option An) → Option An) (fun _ => Unit)
 (fun _ => none)
 (fun _ _ _ => none)
 (fun _ _ _ => none)
 (fun _ _ => none)
 (fun _ _ _ => none)
 (fun _ => none)
 (fun _ => none)
 (fun _ => none)
 (fun _ => none)
 (fun _ _ => none)
 (fun _ _ _ _ => none)
 (fun l g off n k => k l g off n)
 (fun _ _ _ => none)
 (fun _ _ _ _ _ _ => none)
 (fun _ _ _ _ _ => none)
 (fun _ _ _ _ => none)
 (fun _ _ _ => none)
 (fun _ _ _ => none)
 () (fun _ _ _ _ => ()) v k
def slowV (c : Nat) (r : Option Value) (k : V → Option An) : Option An :=
 match r with
 | some (.bool q) => k (.b q)
 | some (.int _ n) => k (vI c n)
 | _ => none
def slowB (op : BinOp) (a b : V) (k : V → Option An) : Option An := vInt a fun c x => vInt b fun c' y => (@Bool.rec (fun _ => _) (none) (slowV c (binS op (.int (kd c) x) (.int (kd c') y)) k) (okc c))
abbrev Bo := Nat → Nat → Nat → Nat → (V → Option An) → Option An
def bCmp (f : Nat → Nat → Bool) (c x c' y : Nat) (k : V → Option An) : Option An := (@Bool.rec (fun _ => _) (none) (k (.b (f x y))) (Nat.beq c c'))
def bAdd : Bo := fun c x c' y k => (@Bool.rec (fun _ => _) (none) (k (wr c (Nat.add x y))) (Nat.beq c c'))
def bMul : Bo := fun c x c' y k => (@Bool.rec (fun _ => _) (none) (k (wr c (Nat.mul x y))) (Nat.beq c c'))
def bSub : Bo := fun c x c' y k => (@Bool.rec (fun _ => _) (none) ((@Bool.rec (fun _ => _) (slowB .sub (.p c x) (.p c' y) k) (k (wr c (Nat.sub x y))) (Nat.ble y x))) (Nat.beq c c'))
def bSlow (op : BinOp) : Bo := fun c x c' y k => slowB op (.p c x) (.p c' y) k
def bNe (x y : Nat) : Bool := (@Bool.rec (fun _ => _) (true) (false) (Nat.beq x y))
def bGt (x y : Nat) : Bool := Nat.blt y x
def bGe (x y : Nat) : Bool := Nat.ble y x
def bop (op : BinOp) : Bo := @BinOp.rec (fun _ => Bo) bAdd bSub bMul (bSlow .quo) (bSlow .rem) (bSlow .and) (bSlow .or) (bSlow .xor) (bSlow .shl) (bSlow .shr) (bSlow .andNot) (bCmp Nat.beq) (bCmp bNe) (bCmp Nat.blt) (bCmp Nat.ble) (bCmp bGt) (bCmp bGe) op
def seq (l n l' n' : Nat) : Bool := (@Bool.rec (fun _ => _) (false) (Nat.beq (Nat.mod n (Nat.pow 256 l)) (Nat.mod n' (Nat.pow 256 l'))) (Nat.beq l l'))
def sCat (l n l' n' : Nat) : V := .s (Nat.add l l') (Nat.add (Nat.mod n (Nat.pow 256 l)) (Nat.mul (Nat.pow 256 l) (Nat.mod n' (Nat.pow 256 l'))))
def bNo : Bo := fun _ _ _ _ _ => none
def sop (op : BinOp) : Bo := @BinOp.rec (fun _ => Bo) (fun l n l' n' k => (@Bool.rec (fun _ => _) (none) (k (sCat l n l' n')) (Nat.ble (Nat.add l l') 1000000000))) bNo bNo bNo bNo bNo bNo bNo bNo bNo bNo (fun l n l' n' k => k (.b (seq l n l' n'))) (fun l n l' n' k => k (.b (@Bool.rec (fun _ => _) (true) (false) (seq l n l' n')))) bNo bNo bNo bNo op
def binA (v : V) (op : BinOp) (c0 : Nat) (x : Nat) (k : V → Option An) : Option An := @V.rec (fun _ => (BinOp) → (Nat) → (Nat) → (V → Option An) → Option An) (fun _ => Unit)
 (fun _ _ _ _ => none)
 (fun c n op c0 x k => bop op c0 x c n k)
 (fun c n op c0 x k => slowB op (.p c0 x) (.m c n) k)
 (fun _ _ _ _ _ => none)
 (fun _ _ _ _ _ _ => none)
 (fun _ _ _ _ => none)
 (fun _ _ _ _ => none)
 (fun _ _ _ _ => none)
 (fun _ _ _ _ => none)
 (fun _ _ _ _ _ => none)
 (fun _ _ _ _ _ _ _ => none)
 (fun _ _ _ _ _ _ _ _ => none)
 (fun _ _ _ _ _ _ => none)
 (fun _ _ _ _ _ _ _ _ _ => none)
 (fun _ _ _ _ _ _ _ _ => none)
 (fun _ _ _ _ _ _ _ => none)
 (fun _ _ _ _ _ _ => none)
 (fun _ _ _ _ _ _ => none)
 () (fun _ _ _ _ => ()) v op c0 x k
def binC (v : V) (op : BinOp) (l0 : Nat) (x : Nat) (k : V → Option An) : Option An := @V.rec (fun _ => (BinOp) → (Nat) → (Nat) → (V → Option An) → Option An) (fun _ => Unit)
 (fun _ _ _ _ => none)
 (fun _ _ _ _ _ _ => none)
 (fun _ _ _ _ _ _ => none)
 (fun _ _ _ _ _ => none)
 (fun l n op l0 x k => sop op l0 x l n k)
 (fun _ _ _ _ => none)
 (fun _ _ _ _ => none)
 (fun _ _ _ _ => none)
 (fun _ _ _ _ => none)
 (fun _ _ _ _ _ => none)
 (fun _ _ _ _ _ _ _ => none)
 (fun _ _ _ _ _ _ _ _ => none)
 (fun _ _ _ _ _ _ => none)
 (fun _ _ _ _ _ _ _ _ _ => none)
 (fun _ _ _ _ _ _ _ _ => none)
 (fun _ _ _ _ _ _ _ => none)
 (fun _ _ _ _ _ _ => none)
 (fun _ _ _ _ _ _ => none)
 () (fun _ _ _ _ => ()) v op l0 x k
def binK (v : V) (op : BinOp) (b : V) (k : V → Option An) : Option An := @V.rec (fun _ => (BinOp) → (V) → (V → Option An) → Option An) (fun _ => Unit)
 (fun _ _ _ => none)
 (fun c n op b k => binA b op c n k)
 (fun c n op b k => slowB op (.m c n) b k)
 (fun _ _ _ _ => none)
 (fun l n op b k => binC b op l n k)
 (fun _ _ _ => none)
 (fun _ _ _ => none)
 (fun _ _ _ => none)
 (fun _ _ _ => none)
 (fun _ _ _ _ => none)
 (fun _ _ _ _ _ _ => none)
 (fun _ _ _ _ _ _ _ => none)
 (fun _ _ _ _ _ => none)
 (fun _ _ _ _ _ _ _ _ => none)
 (fun _ _ _ _ _ _ _ => none)
 (fun _ _ _ _ _ _ => none)
 (fun _ _ _ _ _ => none)
 (fun _ _ _ _ _ => none)
 () (fun _ _ _ _ => ()) v op b k
def bnd (x : Option O) (s : SL) (dflt : Nat) (k : Nat → Option An) : Option An := @Option.rec O (fun _ => SL → Nat → (Nat → Option An) → Option An) (fun _ d k => k d) (fun x s _ k => onP (eO s x) fun _ n => k n) x s dflt k
def readK (ag : Bool) (n : Nat) (cs : List V) (off : Nat) (k : V → Option An) : Option An := (@Bool.rec (fun _ => _) (sk (nth cs off) k) ((@Bool.rec (fun _ => _) (none) (k (.agg (ktake n (kdrop off cs)))) (Nat.beq (klen (ktake n (kdrop off cs))) n))) (ag))
def loadK (v : V) (ag : Bool) (n : Nat) (S : KS) (k : V → Option An) : Option An := @V.rec (fun _ => (Bool) → (Nat) → (KS) → (V → Option An) → Option An) (fun _ => Unit)
 (fun _ _ _ _ => none)
 (fun _ _ _ _ _ _ => none)
 (fun _ _ _ _ _ _ => none)
 (fun _ _ _ _ _ => none)
 (fun _ _ _ _ _ _ => none)
 (fun _ _ _ _ => none)
 (fun _ _ _ _ => none)
 (fun _ _ _ _ => none)
 (fun _ _ _ _ => none)
 (fun _ _ _ _ _ => none)
 (fun _ _ _ _ _ _ _ => none)
 (fun _ _ _ _ _ _ _ _ => none)
 (fun l off ag n S k => gBox S l fun _ cs => readK ag n cs off k)
 (fun _ xs i off _ ag n _ k => sk (nth xs i) fun x => readK ag n x.cells off k)
 (fun l g i off ag n S k => gArr S l fun _ g1 _ _ xs => (@Bool.rec (fun _ => _) (none) (sk (nth xs i) (fun x => readK ag n x.cells off k)) (Nat.beq g g1)))
 (fun _ _ _ _ _ _ _ => none)
 (fun _ _ _ _ _ _ => none)
 (fun _ _ _ _ _ _ => none)
 () (fun _ _ _ _ => ()) v ag n S k
def storeW (v : V) (n : Nat) (S : KS) (x : V) (k : KS → Option An) : Option An := @V.rec (fun _ => (Nat) → (KS) → (V) → (KS → Option An) → Option An) (fun _ => Unit)
 (fun _ _ _ _ => none)
 (fun _ _ _ _ _ _ => none)
 (fun _ _ _ _ _ _ => none)
 (fun _ _ _ _ _ => none)
 (fun _ _ _ _ _ _ => none)
 (fun _ _ _ _ => none)
 (fun _ _ _ _ => none)
 (fun _ _ _ _ => none)
 (fun _ _ _ _ => none)
 (fun _ _ _ _ _ => none)
 (fun _ _ _ _ _ _ _ => none)
 (fun _ _ _ _ _ _ _ _ => none)
 (fun l off n S x k => gBox S l fun bt cs => (@Bool.rec (fun _ => _) (none) ((@Bool.rec (fun _ => _) (none) ((@Bool.rec (fun _ => _) (none) (k (kput S l (.box bt (ksplice cs off x.cells)))) (kall oneV x.cells))) (lvV x (Nat.div l 4294967296)))) (Nat.ble (Nat.add off n) (klen cs))))
 (fun _ _ _ _ _ _ _ _ _ => none)
 (fun l g i off n S x k => frV S x fun w S1 => gArr S1 l fun ro g1 sz e xs => (@Bool.rec (fun _ => _) (none) ((@Bool.rec (fun _ => _) ((@Bool.rec (fun _ => _) (none) ((@Bool.rec (fun _ => _) (none) ((@Bool.rec (fun _ => _) (none) ((@Bool.rec (fun _ => _) (none) (k (kput S1 l (.arr false g1 sz e (kset1 xs i w)))) (Nat.beq (klen w.cells) sz))) (Nat.beq n sz))) (Nat.beq off 0))) (Nat.blt i (klen xs)))) (none) (ro))) (Nat.beq g g1)))
 (fun _ _ _ _ _ _ _ => none)
 (fun _ _ _ _ _ _ => none)
 (fun _ _ _ _ _ _ => none)
 () (fun _ _ _ _ => ()) v n S x k
def storeK (n : Nat) (S : KS) (a x : V) (k : KS → Option An) : Option An := (@Bool.rec (fun _ => _) (none) (storeW a n S x k) (Nat.beq (klen x.cells) n))
def faddrK (v : V) (o : Nat) (k : V → Option An) : Option An := @V.rec (fun _ => (Nat) → (V → Option An) → Option An) (fun _ => Unit)
 (fun _ _ => none)
 (fun _ _ _ _ => none)
 (fun _ _ _ _ => none)
 (fun _ _ _ => none)
 (fun _ _ _ _ => none)
 (fun _ _ => none)
 (fun _ _ => none)
 (fun _ _ => none)
 (fun _ _ => none)
 (fun _ _ _ => none)
 (fun _ _ _ _ _ => none)
 (fun _ _ _ _ _ _ => none)
 (fun l off o k => k (.ptr l (Nat.add off o)))
 (fun sz xs i off _ o k => k (.lptr sz xs i (Nat.add off o)))
 (fun l g i off o k => k (.aptr l g i (Nat.add off o)))
 (fun _ _ _ _ _ => none)
 (fun _ _ _ _ => none)
 (fun _ _ _ _ => none)
 () (fun _ _ _ _ => ()) v o k
def iaddrK (v : V) (sz : Nat) (S : KS) (j : Nat) (k : V → Option An) : Option An := @V.rec (fun _ => (Nat) → (KS) → (Nat) → (V → Option An) → Option An) (fun _ => Unit)
 (fun _ _ _ _ => none)
 (fun _ _ _ _ _ _ => none)
 (fun _ _ _ _ _ _ => none)
 (fun _ _ _ _ _ => none)
 (fun _ _ _ _ _ _ => none)
 (fun _ _ _ _ => none)
 (fun _ _ _ _ => none)
 (fun _ _ _ _ => none)
 (fun _ _ _ _ => none)
 (fun _ _ _ _ _ => none)
 (fun sz1 xs _ sz _ j k => (@Bool.rec (fun _ => _) (none) ((@Bool.rec (fun _ => _) (none) (k (.lptr sz xs j 0)) (Nat.blt j (klen xs)))) (Nat.beq sz sz1)))
 (fun l g off n sz S j k => gArr S l fun _ g1 sz1 _ xs => (@Bool.rec (fun _ => _) (none) ((@Bool.rec (fun _ => _) (none) ((@Bool.rec (fun _ => _) (none) ((@Bool.rec (fun _ => _) (none) (k (.aptr l g (Nat.add off j) 0)) (Nat.blt j n))) (Nat.ble (Nat.add off n) (klen xs)))) (Nat.beq sz sz1))) (Nat.beq g g1)))
 (fun _ _ _ _ _ _ => none)
 (fun _ _ _ _ _ _ _ _ _ => none)
 (fun _ _ _ _ _ _ _ _ => none)
 (fun _ _ _ _ _ _ _ => none)
 (fun _ _ _ _ _ _ => none)
 (fun _ _ _ _ _ _ => none)
 () (fun _ _ _ _ => ()) v sz S j k
def newA (L : Nat) (d : Option Nat) (sz e : Nat) (xs : List V) (S : KS) (k : V → KS → Option An) : Option An :=
 @Option.rec Nat (fun _ => Nat → Nat → Nat → List V → KS → (V → KS → Option An) → Option An) (fun _ _ _ _ _ _ => none) (fun d L sz e xs S k => (@Bool.rec (fun _ => _) (none) ((@Bool.rec (fun _ => _) (none) (k (.own (Nat.add (Nat.mul L 4294967296) d) 0 0 (klen xs)) (kput S (Nat.add (Nat.mul L 4294967296) d) (.arr false 0 sz e xs))) (fresh S (Nat.add (Nat.mul L 4294967296) d)))) (Nat.blt d 4294967296))) d L sz e xs S k
def newB (L : Nat) (d : Option Nat) (bt : Nat) (cs : List V) (S : KS) (k : V → KS → Option An) : Option An :=
 @Option.rec Nat (fun _ => Nat → Nat → List V → KS → (V → KS → Option An) → Option An) (fun _ _ _ _ _ => none) (fun d L bt cs S k => (@Bool.rec (fun _ => _) (none) ((@Bool.rec (fun _ => _) (none) ((@Bool.rec (fun _ => _) (none) ((@Bool.rec (fun _ => _) (none) (k (.ptr (Nat.add (Nat.mul L 4294967296) d) 0) (kput S (Nat.add (Nat.mul L 4294967296) d) (.box bt cs))) (kall oneV cs))) (lvL cs L))) (fresh S (Nat.add (Nat.mul L 4294967296) d)))) (Nat.blt d 4294967296))) d L bt cs S k
def elK (v : V) (S : KS) (k : Option Nat → List V → Option An) : Option An := @V.rec (fun _ => (KS) → (Option Nat → List V → Option An) → Option An) (fun _ => Unit)
 (fun _ _ => none)
 (fun _ _ _ _ => none)
 (fun _ _ _ _ => none)
 (fun _ _ _ => none)
 (fun _ _ _ _ => none)
 (fun _ _ => none)
 (fun _ k => k none [])
 (fun _ _ => none)
 (fun _ _ => none)
 (fun _ _ _ => none)
 (fun sz xs _ _ k => k (some sz) xs)
 (fun l g off n S k => gArr S l fun _ g1 sz _ xs => (@Bool.rec (fun _ => _) (none) ((@Bool.rec (fun _ => _) (none) (k (some sz) (ktake n (kdrop off xs))) (Nat.ble (Nat.add off n) (klen xs)))) (Nat.beq g g1)))
 (fun _ _ _ _ => none)
 (fun _ _ _ _ _ _ _ => none)
 (fun _ _ _ _ _ _ => none)
 (fun _ _ _ _ _ => none)
 (fun _ _ _ _ => none)
 (fun _ _ _ _ => none)
 () (fun _ _ _ _ => ()) v S k
def szOk (s : Option Nat) (sz : Nat) : Bool := @Option.rec Nat (fun _ => Nat → Bool) (fun _ => true) (fun s sz => Nat.beq s sz) s sz
def appD (u8 : Cf) (L e : Nat) : Bool := (@Bool.rec (fun _ => _) (false) (Nat.ble 2 L) (kin e u8.b))
def appE (v : V) (u8 : Cf) (L : Nat) (d : Option Nat) (S : KS) (e : Nat) (sz : Nat) (ys : List V) (k : V → KS → Option An) : Option An := @V.rec (fun _ => (Cf) → (Nat) → (Option Nat) → (KS) → (Nat) → (Nat) → (List V) → (V → KS → Option An) → Option An) (fun _ => Unit)
 (fun _ _ _ _ _ _ _ _ => none)
 (fun _ _ _ _ _ _ _ _ _ _ => none)
 (fun _ _ _ _ _ _ _ _ _ _ => none)
 (fun _ _ _ _ _ _ _ _ _ => none)
 (fun _ _ _ _ _ _ _ _ _ _ => none)
 (fun _ _ _ _ _ _ _ _ => none)
 (fun u8 L d S e sz ys k => (@Bool.rec (fun _ => _) ((@Bool.rec (fun _ => _) (none) ((@Bool.rec (fun _ => _) (newA L d sz e ys S k) (newA 1 (some 7000) sz e ys S k) (appD u8 L e))) (Nat.ble (klen ys) 1000000000))) (k .ns S) (kempty ys)))
 (fun _ _ _ _ _ _ _ _ => none)
 (fun _ _ _ _ _ _ _ _ => none)
 (fun _ _ _ _ _ _ _ _ _ => none)
 (fun _ _ _ _ _ _ _ _ _ _ _ => none)
 (fun l g off n _ _ _ S e sz ys k => gArr S l fun ro g1 sz1 e1 xs => (@Bool.rec (fun _ => _) (none) ((@Bool.rec (fun _ => _) (none) ((@Bool.rec (fun _ => _) ((@Bool.rec (fun _ => _) ((@Bool.rec (fun _ => _) (none) ((@Bool.rec (fun _ => _) (none) ((@Bool.rec (fun _ => _) (none) ((@Bool.rec (fun _ => _) (none) (k (.own l (Nat.succ g) 0 (Nat.add n (klen ys))) (kput S l (.arr false (Nat.succ g) sz e (kapp (ktake n xs) ys)))) (Nat.ble (Nat.add n (klen ys)) 1000000000))) (Nat.beq e1 e))) (Nat.beq sz1 sz))) (Nat.beq off 0))) (none) (ro))) (k (.own l g off n) S) (kempty ys))) (Nat.ble n (klen xs)))) (Nat.beq g g1)))
 (fun _ _ _ _ _ _ _ _ _ _ => none)
 (fun _ _ _ _ _ _ _ _ _ _ _ _ _ => none)
 (fun _ _ _ _ _ _ _ _ _ _ _ _ => none)
 (fun _ _ _ _ _ _ _ _ _ _ _ => none)
 (fun _ _ _ _ _ _ _ _ _ _ => none)
 (fun _ _ _ _ _ _ _ _ _ _ => none)
 () (fun _ _ _ _ => ()) v u8 L d S e sz ys k
def cpyW (v : V) (S : KS) (sy : Option Nat) (ys : List V) (k : V → KS → Option An) : Option An := @V.rec (fun _ => (KS) → (Option Nat) → (List V) → (V → KS → Option An) → Option An) (fun _ => Unit)
 (fun _ _ _ _ => none)
 (fun _ _ _ _ _ _ => none)
 (fun _ _ _ _ _ _ => none)
 (fun _ _ _ _ _ => none)
 (fun _ _ _ _ _ _ => none)
 (fun _ _ _ _ => none)
 (fun _ _ _ _ => none)
 (fun _ _ _ _ => none)
 (fun _ _ _ _ => none)
 (fun _ _ _ _ _ => none)
 (fun _ _ _ _ _ _ _ => none)
 (fun l g off n S sy ys k => gArr S l fun ro g1 sz1 e xs => (@Bool.rec (fun _ => _) ((@Bool.rec (fun _ => _) (none) ((@Bool.rec (fun _ => _) (none) ((@Bool.rec (fun _ => _) (none) ((@Bool.rec (fun _ => _) (none) (k (.p 9223372036854775808 (@Bool.rec (fun _ => _) (n) (klen ys) (Nat.ble (klen ys) n))) (kput S l (.arr false g 1 e (ksplice xs off (ktake (@Bool.rec (fun _ => _) (n) (klen ys) (Nat.ble (klen ys) n)) ys))))) (Nat.ble (Nat.add off n) (klen xs)))) (szOk sy 1))) (Nat.beq sz1 1))) (Nat.beq g g1))) (none) (ro)))
 (fun _ _ _ _ _ _ => none)
 (fun _ _ _ _ _ _ _ _ _ => none)
 (fun _ _ _ _ _ _ _ _ => none)
 (fun _ _ _ _ _ _ _ => none)
 (fun _ _ _ _ _ _ => none)
 (fun _ _ _ _ _ _ => none)
 () (fun _ _ _ _ => ()) v S sy ys k
def cutK (s : SL) (lo hi mx : Option O) (n : Nat) (mk : Nat → Nat → V) (k : V → Option An) : Option An :=
 bnd lo s 0 fun l => bnd hi s n fun h => bnd mx s n fun m => (@Bool.rec (fun _ => _) (none) ((@Bool.rec (fun _ => _) (none) ((@Bool.rec (fun _ => _) (none) ((@Bool.rec (fun _ => _) (none) (k (mk l h)) ((@Bool.rec (fun _ => _) (true) (hi.isSome) (mx.isSome))))) (Nat.ble m n))) (Nat.ble h m))) (Nat.ble l h))
def slcK (v : V) (sz : Nat) (s : SL) (S : KS) (lo : Option O) (hi : Option O) (mx : Option O) (k : V → Option An) : Option An := @V.rec (fun _ => (Nat) → (SL) → (KS) → (Option O) → (Option O) → (Option O) → (V → Option An) → Option An) (fun _ => Unit)
 (fun _ _ _ _ _ _ _ => none)
 (fun _ _ _ _ _ _ _ _ _ => none)
 (fun _ _ _ _ _ _ _ _ _ => none)
 (fun _ _ _ _ _ _ _ _ => none)
 (fun _ _ _ _ _ _ _ _ _ => none)
 (fun _ _ _ _ _ _ _ => none)
 (fun _ s _ lo hi mx k => (@Bool.rec (fun _ => _) (none) ((@Bool.rec (fun _ => _) (none) ((@Bool.rec (fun _ => _) (none) (cutK s lo hi mx 0 (fun _ _ => .ns) k) (hi.isSome))) (mx.isNone))) (lo.isNone)))
 (fun _ _ _ _ _ _ _ => none)
 (fun _ _ _ _ _ _ _ => none)
 (fun _ _ _ _ _ _ _ _ => none)
 (fun sz1 xs _ sz s _ lo hi mx k => (@Bool.rec (fun _ => _) (none) (cutK s lo hi mx (klen xs) (fun l h => .lst sz (kdrop l (ktake h xs))) k) (Nat.beq sz sz1)))
 (fun c g off n sz s S lo hi mx k => gArr S c fun _ g1 sz1 _ _ => (@Bool.rec (fun _ => _) (none) ((@Bool.rec (fun _ => _) (none) (cutK s lo hi mx n (fun l h => .own c g (Nat.add off l) (Nat.sub h l)) k) (Nat.beq sz sz1))) (Nat.beq g g1)))
 (fun _ _ _ _ _ _ _ _ _ => none)
 (fun _ _ _ _ _ _ _ _ _ _ _ _ => none)
 (fun _ _ _ _ _ _ _ _ _ _ _ => none)
 (fun _ _ _ _ _ _ _ _ _ _ => none)
 (fun _ _ _ _ _ _ _ _ _ => none)
 (fun _ _ _ _ _ _ _ _ _ => none)
 () (fun _ _ _ _ => ()) v sz s S lo hi mx k
def fillK (r : List (Nat × O)) (ps : List (Nat × Nat)) (s : SL) (cs : List V) (k : List V → Option An) : Option An := @List.rec (Nat × O) (fun _ => List (Nat × Nat) → SL → List V → (List V → Option An) → Option An) (fun _ _ cs k => k cs)
 (fun e _ ih ps s cs k => @Option.rec (Nat × Nat) (fun _ => Option An) none (fun q => (@Bool.rec (fun _ => _) (none) ((@Bool.rec (fun _ => _) (none) ((@Bool.rec (fun _ => _) (none) (ih ps s (ksplice cs q.1 (eO s e.2).cells) k) (kall oneV (eO s e.2).cells))) (Nat.ble (Nat.add q.1 q.2) (klen cs)))) (Nat.beq (klen (eO s e.2).cells) q.2))) (nth ps e.1)) r ps s cs k
def byL (len n : Nat) : List V := @Nat.rec (fun _ => Nat → List V) (fun _ => []) (fun _ ih n => .p 256 (Nat.mod n 256) :: ih (Nat.div n 256)) len n
def pkB1 (v : V) (r : Option Nat) : Option Nat := @V.rec (fun _ => (Option Nat) → Option Nat) (fun _ => Unit)
 (fun _ => none)
 (fun c n r => @Option.rec Nat (fun _ => Option Nat) none (fun r => (@Bool.rec (fun _ => _) (none) (some (Nat.add (Nat.mod n 256) (Nat.mul 256 r))) (Nat.beq c 256))) r)
 (fun _ _ _ => none)
 (fun _ _ => none)
 (fun _ _ _ => none)
 (fun _ => none)
 (fun _ => none)
 (fun _ => none)
 (fun _ => none)
 (fun _ _ => none)
 (fun _ _ _ _ => none)
 (fun _ _ _ _ _ => none)
 (fun _ _ _ => none)
 (fun _ _ _ _ _ _ => none)
 (fun _ _ _ _ _ => none)
 (fun _ _ _ _ => none)
 (fun _ _ _ => none)
 (fun _ _ _ => none)
 () (fun _ _ _ _ => ()) v r
def pkB (xs : List V) : Option Nat := @List.rec V (fun _ => Option Nat) (some (nat_lit 0)) (fun v _ ih => pkB1 v ih) xs
def pkBk (xs : List V) (k : Nat → Option An) : Option An := @Option.rec Nat (fun _ => (Nat → Option An) → Option An) (fun _ => none) (fun n k => k n) (pkB xs) k
def isBy (v : V)  : Bool := @V.rec (fun _ => Bool) (fun _ => Unit)
 (false)
 (fun c n => (@Bool.rec (fun _ => _) (false) (Nat.blt n 256) (Nat.beq c 256)))
 (fun _ _ => false)
 (fun _ => false)
 (fun _ _ => false)
 (false)
 (false)
 (false)
 (false)
 (fun _ => false)
 (fun _ _ _ => false)
 (fun _ _ _ _ => false)
 (fun _ _ => false)
 (fun _ _ _ _ _ => false)
 (fun _ _ _ _ => false)
 (fun _ _ _ => false)
 (fun _ _ => false)
 (fun _ _ => false)
 () (fun _ _ _ _ => ()) v
def peq1 (v : V) (l0 : Nat) (o0 : Nat) (k : Bool → Option An) : Option An := @V.rec (fun _ => (Nat) → (Nat) → (Bool → Option An) → Option An) (fun _ => Unit)
 (fun _ _ _ => none)
 (fun _ _ _ _ _ => none)
 (fun _ _ _ _ _ => none)
 (fun _ _ _ _ => none)
 (fun _ _ _ _ _ => none)
 (fun _ _ k => k false)
 (fun _ _ _ => none)
 (fun _ _ _ => none)
 (fun _ _ _ => none)
 (fun _ _ _ _ => none)
 (fun _ _ _ _ _ _ => none)
 (fun _ _ _ _ _ _ _ => none)
 (fun l off l0 o0 k => (@Bool.rec (fun _ => _) (none) ((@Bool.rec (fun _ => _) (none) (k true) (Nat.beq o0 off))) (Nat.beq l0 l)))
 (fun _ _ _ _ _ _ _ _ => none)
 (fun _ _ _ _ _ _ _ => none)
 (fun _ _ _ _ _ _ => none)
 (fun _ _ _ _ _ => none)
 (fun _ _ _ _ _ => none)
 () (fun _ _ _ _ => ()) v l0 o0 k
def peq2 (v : V) (k : Bool → Option An) : Option An := @V.rec (fun _ => (Bool → Option An) → Option An) (fun _ => Unit)
 (fun _ => none)
 (fun _ _ _ => none)
 (fun _ _ _ => none)
 (fun _ _ => none)
 (fun _ _ _ => none)
 (fun k => k true)
 (fun _ => none)
 (fun _ => none)
 (fun _ => none)
 (fun _ _ => none)
 (fun _ _ _ _ => none)
 (fun _ _ _ _ _ => none)
 (fun _ _ k => k false)
 (fun _ _ _ _ _ _ => none)
 (fun _ _ _ _ _ => none)
 (fun _ _ _ _ => none)
 (fun _ _ _ => none)
 (fun _ _ _ => none)
 () (fun _ _ _ _ => ()) v k
def peq3 (v : V) (k : Bool → Option An) : Option An := @V.rec (fun _ => (Bool → Option An) → Option An) (fun _ => Unit)
 (fun _ => none)
 (fun _ _ _ => none)
 (fun _ _ _ => none)
 (fun _ _ => none)
 (fun _ _ _ => none)
 (fun k => k false)
 (fun _ => none)
 (fun _ => none)
 (fun _ => none)
 (fun _ _ => none)
 (fun _ _ _ _ => none)
 (fun _ _ _ _ _ => none)
 (fun _ _ _ => none)
 (fun _ _ _ _ _ _ => none)
 (fun _ _ _ _ _ => none)
 (fun _ _ _ _ => none)
 (fun _ _ _ => none)
 (fun _ _ _ => none)
 () (fun _ _ _ _ => ()) v k
def peqK (v : V) (y : V) (k : Bool → Option An) : Option An := @V.rec (fun _ => (V) → (Bool → Option An) → Option An) (fun _ => Unit)
 (fun _ _ => none)
 (fun _ _ _ _ => none)
 (fun _ _ _ _ => none)
 (fun _ _ _ => none)
 (fun _ _ _ _ => none)
 (fun y k => peq2 y k)
 (fun _ _ => none)
 (fun _ _ => none)
 (fun _ _ => none)
 (fun _ _ _ => none)
 (fun _ _ _ _ _ => none)
 (fun _ _ _ _ _ _ => none)
 (fun l off y k => peq1 y l off k)
 (fun _ _ _ _ _ y k => peq3 y k)
 (fun _ _ _ _ y k => peq3 y k)
 (fun _ _ _ _ _ => none)
 (fun _ _ _ _ => none)
 (fun _ _ _ _ => none)
 () (fun _ _ _ _ => ()) v y k
def x_mv (x : O) (call : CallK) (u8 : Cf) (L : Nat) (d : Option Nat) (s : SL) (S : KS) (k : V → KS → Option An) : Option An := k (eO s x) S
def x_pick (c a b : O) (call : CallK) (u8 : Cf) (L : Nat) (d : Option Nat) (s : SL) (S : KS) (k : V → KS → Option An) : Option An := onB (eO s c) fun q => k (@Bool.rec (fun _ => _) (eO s b) (eO s a) (q)) S
def x_bin (op : BinOp) (x y : O) (call : CallK) (u8 : Cf) (L : Nat) (d : Option Nat) (s : SL) (S : KS) (k : V → KS → Option An) : Option An := binK (eO s x) op (eO s y) fun v => k v S
def x_beq (ne : Bool) (x y : O) (call : CallK) (u8 : Cf) (L : Nat) (d : Option Nat) (s : SL) (S : KS) (k : V → KS → Option An) : Option An := onB (eO s x) fun a => onB (eO s y) fun c => k (.b (@Bool.rec (fun _ => _) ((@Bool.rec (fun _ => _) ((@Bool.rec (fun _ => _) (true) (false) (c))) (c) (a))) ((@Bool.rec (fun _ => _) (c) ((@Bool.rec (fun _ => _) (true) (false) (c))) (a))) (ne))) S
def x_not (x : O) (call : CallK) (u8 : Cf) (L : Nat) (d : Option Nat) (s : SL) (S : KS) (k : V → KS → Option An) : Option An := onB (eO s x) fun a => k (.b (@Bool.rec (fun _ => _) (true) (false) (a))) S
def x_neg (x : O) (call : CallK) (u8 : Cf) (L : Nat) (d : Option Nat) (s : SL) (S : KS) (k : V → KS → Option An) : Option An := vInt (eO s x) fun c n => (@Bool.rec (fun _ => _) (none) (k (vI c ((kd c).wrap (0 - n))) S) (okc c))
def x_lenS (x : O) (call : CallK) (u8 : Cf) (L : Nat) (d : Option Nat) (s : SL) (S : KS) (k : V → KS → Option An) : Option An := onS (eO s x) fun l _ => k (.p 9223372036854775808 l) S
def x_idxS (x i : O) (call : CallK) (u8 : Cf) (L : Nat) (d : Option Nat) (s : SL) (S : KS) (k : V → KS → Option An) : Option An := onS (eO s x) fun l n => onP (eO s i) fun _ j => (@Bool.rec (fun _ => _) (none) (k (.p 256 (Nat.mod (Nat.div n (Nat.pow 256 j)) 256)) S) (Nat.blt j l))
def x_cutS (x : O) (lo hi : Option O) (call : CallK) (u8 : Cf) (L : Nat) (d : Option Nat) (s : SL) (S : KS) (k : V → KS → Option An) : Option An := onS (eO s x) fun len n => bnd lo s 0 fun l => bnd hi s len fun h => (@Bool.rec (fun _ => _) (none) ((@Bool.rec (fun _ => _) (none) (k (.s (Nat.sub h l) (Nat.mod (Nat.div n (Nat.pow 256 l)) (Nat.pow 256 (Nat.sub h l)))) S) (Nat.ble h len))) (Nat.ble l h))
def cvK (v : V) (c0 : Nat) (k : V → Option An) : Option An := @V.rec (fun _ => (Nat) → (V → Option An) → Option An) (fun _ => Unit)
 (fun _ _ => none)
 (fun _ n c0 k => k (wr c0 n))
 (fun _ n c0 k => (@Bool.rec (fun _ => _) (none) (k (vI c0 ((kd c0).wrap (Int.negSucc n)))) (okc c0)))
 (fun _ _ _ => none)
 (fun _ _ _ _ => none)
 (fun _ _ => none)
 (fun _ _ => none)
 (fun _ _ => none)
 (fun _ _ => none)
 (fun _ _ _ => none)
 (fun _ _ _ _ _ => none)
 (fun _ _ _ _ _ _ => none)
 (fun _ _ _ _ => none)
 (fun _ _ _ _ _ _ _ => none)
 (fun _ _ _ _ _ _ => none)
 (fun _ _ _ _ _ => none)
 (fun _ _ _ _ => none)
 (fun _ _ _ _ => none)
 () (fun _ _ _ _ => ()) v c0 k
def x_cv (c : Nat) (x : O) (call : CallK) (u8 : Cf) (L : Nat) (d : Option Nat) (s : SL) (S : KS) (k : V → KS → Option An) : Option An := cvK (eO s x) c fun v => k v S
def x_i2s (x : O) (call : CallK) (u8 : Cf) (L : Nat) (d : Option Nat) (s : SL) (S : KS) (k : V → KS → Option An) : Option An := onP (eO s x) fun _ n => (@Bool.rec (fun _ => _) (none) (k (.s 1 n) S) (Nat.blt n 128))
def x_mm (mx : Bool) (x y : O) (call : CallK) (u8 : Cf) (L : Nat) (d : Option Nat) (s : SL) (S : KS) (k : V → KS → Option An) : Option An := onP (eO s x) fun c a => onP (eO s y) fun _ b => k (.p c (@Bool.rec (fun _ => _) ((@Bool.rec (fun _ => _) (a) (b) (Nat.blt b a))) ((@Bool.rec (fun _ => _) (a) (b) (Nat.blt a b))) (mx))) S
def lenK (v : V) (k : Nat → Option An) : Option An := @V.rec (fun _ => (Nat → Option An) → Option An) (fun _ => Unit)
 (fun _ => none)
 (fun _ _ _ => none)
 (fun _ _ _ => none)
 (fun _ _ => none)
 (fun _ _ _ => none)
 (fun _ => none)
 (fun k => k 0)
 (fun _ => none)
 (fun _ => none)
 (fun _ _ => none)
 (fun _ xs _ k => k (klen xs))
 (fun _ _ _ n k => k n)
 (fun _ _ _ => none)
 (fun _ _ _ _ _ _ => none)
 (fun _ _ _ _ _ => none)
 (fun _ _ _ _ => none)
 (fun _ _ _ => none)
 (fun _ _ _ => none)
 () (fun _ _ _ _ => ()) v k
def x_len (x : O) (call : CallK) (u8 : Cf) (L : Nat) (d : Option Nat) (s : SL) (S : KS) (k : V → KS → Option An) : Option An := lenK (eO s x) fun n => k (.p 9223372036854775808 n) S
def capK (v : V) (k : Option An) : Option An := @V.rec (fun _ => (Option An) → Option An) (fun _ => Unit)
 (fun _ => none)
 (fun _ _ _ => none)
 (fun _ _ _ => none)
 (fun _ _ => none)
 (fun _ _ _ => none)
 (fun _ => none)
 (fun k => k)
 (fun _ => none)
 (fun _ => none)
 (fun _ _ => none)
 (fun _ _ _ _ => none)
 (fun _ _ _ _ _ => none)
 (fun _ _ _ => none)
 (fun _ _ _ _ _ _ => none)
 (fun _ _ _ _ _ => none)
 (fun _ _ _ _ => none)
 (fun _ _ _ => none)
 (fun _ _ _ => none)
 () (fun _ _ _ _ => ()) v k
def x_capn (x : O) (call : CallK) (u8 : Cf) (L : Nat) (d : Option Nat) (s : SL) (S : KS) (k : V → KS → Option An) : Option An := capK (eO s x) (k (.p 9223372036854775808 0) S)
def x_load (ag : Bool) (n : Nat) (a : O) (call : CallK) (u8 : Cf) (L : Nat) (d : Option Nat) (s : SL) (S : KS) (k : V → KS → Option An) : Option An := loadK (eO s a) ag n S fun v => k v S
def x_store (n : Nat) (a v : O) (call : CallK) (u8 : Cf) (L : Nat) (d : Option Nat) (s : SL) (S : KS) (k : V → KS → Option An) : Option An := storeK n S (eO s a) (eO s v) fun S1 => k (.tup []) S1
def x_faddr (o : Nat) (a : O) (call : CallK) (u8 : Cf) (L : Nat) (d : Option Nat) (s : SL) (S : KS) (k : V → KS → Option An) : Option An := faddrK (eO s a) o fun v => k v S
def x_field (o n : Nat) (ag : Bool) (x : O) (call : CallK) (u8 : Cf) (L : Nat) (d : Option Nat) (s : SL) (S : KS) (k : V → KS → Option An) : Option An := onAgg (eO s x) fun cs => readK ag n cs o fun v => k v S
def x_aidx (ag : Bool) (sz n : Nat) (x i : O) (call : CallK) (u8 : Cf) (L : Nat) (d : Option Nat) (s : SL) (S : KS) (k : V → KS → Option An) : Option An := onAgg (eO s x) fun cs => onP (eO s i) fun _ j => (@Bool.rec (fun _ => _) (none) (readK ag sz cs (Nat.mul j sz) fun v => k v S) (Nat.blt j n))
def x_iaddr (sz : Nat) (x i : O) (call : CallK) (u8 : Cf) (L : Nat) (d : Option Nat) (s : SL) (S : KS) (k : V → KS → Option An) : Option An := onP (eO s i) fun _ j => iaddrK (eO s x) sz S j fun v => k v S
def x_iaddrA (len sz : Nat) (x i : O) (call : CallK) (u8 : Cf) (L : Nat) (d : Option Nat) (s : SL) (S : KS) (k : V → KS → Option An) : Option An := onP (eO s i) fun _ n => onPtr (eO s x) fun l off => (@Bool.rec (fun _ => _) (none) (k (.ptr l (Nat.add off (Nat.mul n sz))) S) (Nat.blt n len))
def x_mk (sz : Nat) (e : Nat) (z : V) (l c : O) (call : CallK) (u8 : Cf) (L : Nat) (d : Option Nat) (s : SL) (S : KS) (k : V → KS → Option An) : Option An := onP (eO s l) fun _ n => onP (eO s c) fun _ m => (@Bool.rec (fun _ => _) (none) ((@Bool.rec (fun _ => _) (none) (newA L d sz e (krep n z) S k) (Nat.ble m 1000000000))) (Nat.ble n m))
def x_bsl (e : Nat) (sz : Nat) (ps : List O) (call : CallK) (u8 : Cf) (L : Nat) (d : Option Nat) (s : SL) (S : KS) (k : V → KS → Option An) : Option An := frL (eL ps s) S fun us S1 => (@Bool.rec (fun _ => _) (none) ((@Bool.rec (fun _ => _) (newA L d sz e us S1 k) (k (.lst sz us) S1) (kin (Nat.add e (Nat.mul 1000000 L)) (u8.om 1000000002)))) (kall (fun w : V => Nat.beq (klen w.cells) sz) us))
def x_app (e : Nat) (sz : Nat) (x y : O) (call : CallK) (u8 : Cf) (L : Nat) (d : Option Nat) (s : SL) (S : KS) (k : V → KS → Option An) : Option An := elK (eO s y) S fun sy ys => (@Bool.rec (fun _ => _) (none) (appE (eO s x) u8 L d S e sz ys k) (szOk sy sz))
def x_cpy (x y : O) (call : CallK) (u8 : Cf) (L : Nat) (d : Option Nat) (s : SL) (S : KS) (k : V → KS → Option An) : Option An := elK (eO s y) S fun sy ys => cpyW (eO s x) S sy ys k
def x_slc (sz : Nat) (x : O) (lo hi mx : Option O) (call : CallK) (u8 : Cf) (L : Nat) (d : Option Nat) (s : SL) (S : KS) (k : V → KS → Option An) : Option An := slcK (eO s x) sz s S lo hi mx fun v => k v S
def x_bld (ps : List (Nat × Nat)) (z : List V) (parts : List (Nat × O)) (call : CallK) (u8 : Cf) (L : Nat) (d : Option Nat) (s : SL) (S : KS) (k : V → KS → Option An) : Option An := fillK parts ps s z fun cs => k (.agg cs) S
def x_alloc (e : Nat) (z : List V) (call : CallK) (u8 : Cf) (L : Nat) (d : Option Nat) (s : SL) (S : KS) (k : V → KS → Option An) : Option An := newB L d e z S k
def x_box (e : Nat) (x : O) (call : CallK) (u8 : Cf) (L : Nat) (d : Option Nat) (s : SL) (S : KS) (k : V → KS → Option An) : Option An := newB L d e (eO s x).cells S k
def x_s2b (x : O) (call : CallK) (u8 : Cf) (L : Nat) (d : Option Nat) (s : SL) (S : KS) (k : V → KS → Option An) : Option An := onS (eO s x) fun len n => k (.lst 1 (byL len n)) S
def x_b2s (x : O) (call : CallK) (u8 : Cf) (L : Nat) (d : Option Nat) (s : SL) (S : KS) (k : V → KS → Option An) : Option An := elK (eO s x) S fun sy xs => @Option.rec Nat (fun _ => Option An) none (fun z => (@Bool.rec (fun _ => _) (none) (pkBk xs (fun n => k (.s (klen xs) n) S)) (Nat.beq z 1))) sy
def x_mkf (f : Nat) (caps : List O) (call : CallK) (u8 : Cf) (L : Nat) (d : Option Nat) (s : SL) (S : KS) (k : V → KS → Option An) : Option An := k (.clo f (eL caps s)) S
def x_ext (x : O) (j : Nat) (call : CallK) (u8 : Cf) (L : Nat) (d : Option Nat) (s : SL) (S : KS) (k : V → KS → Option An) : Option An := onTup (eO s x) fun ts => sk (nth ts j) fun v => k v S
def callW (v : V) (call : CallK) (cf : Cf) (L : Nat) (d : Option Nat) (S : KS) (args : List V) (k : V → KS → Option An) : Option An := @V.rec (fun _ => (CallK) → (Cf) → (Nat) → (Option Nat) → (KS) → (List V) → (V → KS → Option An) → Option An) (fun _ => Unit)
 (fun _ _ _ _ _ _ _ => none)
 (fun _ _ _ _ _ _ _ _ _ => none)
 (fun _ _ _ _ _ _ _ _ _ => none)
 (fun _ _ _ _ _ _ _ _ => none)
 (fun _ _ _ _ _ _ _ _ _ => none)
 (fun _ _ _ _ _ _ _ => none)
 (fun _ _ _ _ _ _ _ => none)
 (fun _ _ _ _ _ _ _ => none)
 (fun _ _ _ _ _ _ _ => none)
 (fun g call cf L d S args k => goK call cf L d S g args [] k)
 (fun _ _ _ _ _ _ _ _ _ _ => none)
 (fun _ _ _ _ _ _ _ _ _ _ _ => none)
 (fun _ _ _ _ _ _ _ _ _ => none)
 (fun _ _ _ _ _ _ _ _ _ _ _ _ => none)
 (fun _ _ _ _ _ _ _ _ _ _ _ => none)
 (fun g cs _ call cf L d S args k => (@Bool.rec (fun _ => _) (goK call cf L d S (Nat.sub g 1000000000) (kapp cs args) [] k) (goK call cf L d S g args cs k) (Nat.blt g 1000000000)))
 (fun _ _ _ _ _ _ _ _ _ => none)
 (fun _ _ _ _ _ _ _ _ _ => none)
 () (fun _ _ _ _ => ()) v call cf L d S args k
def x_call (f : O) (args : List O) (call : CallK) (u8 : Cf) (L : Nat) (d : Option Nat) (s : SL) (S : KS) (k : V → KS → Option An) : Option An := callW (eO s f) call u8 L d S (eL args s) k
def x_nck (x : O) (call : CallK) (u8 : Cf) (L : Nat) (d : Option Nat) (s : SL) (S : KS) (k : V → KS → Option An) : Option An := onPtr (eO s x) fun l off => k (.ptr l off) S
def x_bad  (call : CallK) (u8 : Cf) (L : Nat) (d : Option Nat) (s : SL) (S : KS) (k : V → KS → Option An) : Option An := none
def x_peq (ng : Bool) (x y : O) (call : CallK) (u8 : Cf) (L : Nat) (d : Option Nat) (s : SL) (S : KS) (k : V → KS → Option An) : Option An := peqK (eO s x) (eO s y) fun r => k (.b (@Bool.rec (fun _ => _) (r) ((@Bool.rec (fun _ => _) (true) (false) (r))) (ng))) S
def x_toU (x : O) (call : CallK) (u8 : Cf) (L : Nat) (d : Option Nat) (s : SL) (S : KS) (k : V → KS → Option An) : Option An := onPtr (eO s x) fun l off => gBox S l fun _ cs => (@Bool.rec (fun _ => _) (none) (k (.ptr l off) S) (Nat.blt off (klen cs)))
def ofK (bt m n : Nat) : Nat := (@Bool.rec (fun _ => _) (Nat.add bt (Nat.mul 1000000 m)) (bt) (Nat.beq m n))
def x_ofU (u : List Nat) (n : Nat) (x : O) (call : CallK) (u8 : Cf) (L : Nat) (d : Option Nat) (s : SL) (S : KS) (k : V → KS → Option An) : Option An := onPtr (eO s x) fun l off => gBox S l fun bt cs => (@Bool.rec (fun _ => _) (none) ((@Bool.rec (fun _ => _) (none) ((@Bool.rec (fun _ => _) (none) ((@Bool.rec (fun _ => _) (none) (k (.ptr l off) S) (Nat.blt 0 (klen cs)))) (Nat.blt bt 1000000))) (Nat.beq off 0))) (kin (ofK bt (klen cs) n) u))
def x_apps (e : Nat) (x y : O) (call : CallK) (u8 : Cf) (L : Nat) (d : Option Nat) (s : SL) (S : KS) (k : V → KS → Option An) : Option An := onS (eO s y) fun len n => appE (eO s x) u8 L d S e 1 (byL len n) k
def x_appz (e : Nat) (sz : Nat) (z : V) (x y : O) (call : CallK) (u8 : Cf) (L : Nat) (d : Option Nat) (s : SL) (S : KS) (k : V → KS → Option An) : Option An := capK (eO s x) (onP (eO s y) fun _ n => (@Bool.rec (fun _ => _) (none) ((@Bool.rec (fun _ => _) (none) (newA L d sz e (krep n z) S k) (Nat.ble n 1000000000))) (Nat.blt 0 n)))
def usdK (v : V) (S : KS) (k : V → Option An) : Option An := @V.rec (fun _ => (KS) → (V → Option An) → Option An) (fun _ => Unit)
 (fun _ _ => none)
 (fun _ _ _ _ => none)
 (fun _ _ _ _ => none)
 (fun _ _ _ => none)
 (fun _ _ _ _ => none)
 (fun _ _ => none)
 (fun _ k => k .np)
 (fun _ _ => none)
 (fun _ _ => none)
 (fun _ _ _ => none)
 (fun _ _ _ _ _ => none)
 (fun l g off n S k => gArr S l fun _ g1 _ _ _ => (@Bool.rec (fun _ => _) (none) ((@Bool.rec (fun _ => _) (none) (k (.aptr l g off 0)) (Nat.blt 0 n))) (Nat.beq g g1)))
 (fun _ _ _ _ => none)
 (fun _ _ _ _ _ _ _ => none)
 (fun _ _ _ _ _ _ => none)
 (fun _ _ _ _ _ => none)
 (fun _ _ _ _ => none)
 (fun _ _ _ _ => none)
 () (fun _ _ _ _ => ()) v S k
def x_usd (x : O) (call : CallK) (u8 : Cf) (L : Nat) (d : Option Nat) (s : SL) (S : KS) (k : V → KS → Option An) : Option An := usdK (eO s x) S fun v => k v S
def ustrK (v : V) (S : KS) (e : Nat) (n : Nat) (k : V → KS → Option An) : Option An := @V.rec (fun _ => (KS) → (Nat) → (Nat) → (V → KS → Option An) → Option An) (fun _ => Unit)
 (fun _ _ _ _ => none)
 (fun _ _ _ _ _ _ => none)
 (fun _ _ _ _ _ _ => none)
 (fun _ _ _ _ _ => none)
 (fun _ _ _ _ _ _ => none)
 (fun S _ n k => (@Bool.rec (fun _ => _) (none) (k (.s 0 0) S) (Nat.beq n 0)))
 (fun _ _ _ _ => none)
 (fun _ _ _ _ => none)
 (fun _ _ _ _ => none)
 (fun _ _ _ _ _ => none)
 (fun _ _ _ _ _ _ _ => none)
 (fun _ _ _ _ _ _ _ _ => none)
 (fun _ _ _ _ _ _ => none)
 (fun _ _ _ _ _ _ _ _ _ => none)
 (fun l g i off S e n k => gArr S l fun ro g1 sz e1 xs => (@Bool.rec (fun _ => _) (none) ((@Bool.rec (fun _ => _) ((@Bool.rec (fun _ => _) (none) ((@Bool.rec (fun _ => _) (none) ((@Bool.rec (fun _ => _) (none) ((@Bool.rec (fun _ => _) (none) ((@Bool.rec (fun _ => _) (none) ((@Bool.rec (fun _ => _) (none) ((@Bool.rec (fun _ => _) (none) ((@Bool.rec (fun _ => _) (none) (pkBk (ktake n xs) (fun q => k (.s n q) (kro S [l]))) (kall isBy (ktake n xs)))) (Nat.ble n 9223372036854775807))) (Nat.ble n (klen xs)))) (Nat.blt 0 n))) (Nat.beq e1 e))) (Nat.beq sz 1))) (Nat.beq off 0))) (Nat.beq i 0))) (none) (ro))) (Nat.beq g g1)))
 (fun _ _ _ _ _ _ _ => none)
 (fun _ _ _ _ _ _ => none)
 (fun _ _ _ _ _ _ => none)
 () (fun _ _ _ _ => ()) v S e n k
def x_ustr (e : Nat) (p n : O) (call : CallK) (u8 : Cf) (L : Nat) (d : Option Nat) (s : SL) (S : KS) (k : V → KS → Option An) : Option An := onP (eO s n) fun c m => (@Bool.rec (fun _ => _) (none) (ustrK (eO s p) S e m k) (Nat.beq c 9223372036854775808))
def xK (y : Y) (call : CallK) (u8 : Cf) (L : Nat) (d : Option Nat) (s : SL) (S : KS) (k : V → KS → Option An) : Option An := @Y.rec (fun _ => CallK → Cf → Nat → Option Nat → SL → KS → (V → KS → Option An) → Option An)
 x_mv x_pick x_bin x_beq x_not x_neg x_lenS x_idxS x_cutS x_cv x_i2s x_mm x_len x_capn x_load x_store x_faddr x_field x_aidx x_iaddr x_iaddrA x_mk x_bsl x_app x_cpy x_slc x_bld x_alloc x_box x_s2b x_b2s x_mkf x_ext x_call x_nck x_bad x_peq x_toU x_ofU x_apps x_appz x_usd x_ustr y call u8 L d s S k
def inF (L : Nat) (ds : List Nat) (l : Nat) : Bool := (@Bool.rec (fun _ => _) ((@Bool.rec (fun _ => _) (false) (kin 9999999 ds) (Nat.blt (Nat.div l 4294967296) L))) ((@Bool.rec (fun _ => _) (kin (Nat.mod l 4294967296) ds) (false) (Nat.beq (Nat.mod l 4294967296) 9999999))) (Nat.beq (Nat.div l 4294967296) L))
def atF (v : V) (L : Nat) (ds : List Nat) : Bool := @V.rec (fun _ => (Nat) → (List Nat) → Bool) (fun _ => Unit)
 (fun _ _ => true)
 (fun _ _ _ _ => true)
 (fun _ _ _ _ => true)
 (fun _ _ _ => true)
 (fun _ _ _ _ => true)
 (fun _ _ => true)
 (fun _ _ => true)
 (fun _ _ => true)
 (fun _ _ => true)
 (fun _ _ _ => true)
 (fun _ _ _ _ _ => true)
 (fun l _ _ _ L ds => inF L ds l)
 (fun l _ L ds => inF L ds l)
 (fun _ _ _ _ _ _ _ => true)
 (fun l _ _ _ L ds => inF L ds l)
 (fun _ _ _ _ _ => true)
 (fun _ _ _ _ => true)
 (fun _ _ _ _ => true)
 () (fun _ _ _ _ => ()) v L ds
def noOwn (v : V)  : Bool := @V.rec (fun _ => Bool) (fun _ => Bool)
 (true)
 (fun _ _ => true)
 (fun _ _ => true)
 (fun _ => true)
 (fun _ _ => true)
 (true)
 (true)
 (true)
 (true)
 (fun _ => true)
 (fun _ _ _ => true)
 (fun _ _ _ _ => false)
 (fun _ _ => true)
 (fun _ _ _ _ _ => true)
 (fun _ _ _ _ => true)
 (fun _ _ _ => true)
 (fun _ ih => ih)
 (fun _ _ => true)
 (true) (fun _ _ hx hxs => (@Bool.rec (fun _ => _) (false) (hxs) (hx))) v
def noOwnL (v : List V)  : Bool := @V.rec_1 (fun _ => Bool) (fun _ => Bool)
 (true)
 (fun _ _ => true)
 (fun _ _ => true)
 (fun _ => true)
 (fun _ _ => true)
 (true)
 (true)
 (true)
 (true)
 (fun _ => true)
 (fun _ _ _ => true)
 (fun _ _ _ _ => false)
 (fun _ _ => true)
 (fun _ _ _ _ _ => true)
 (fun _ _ _ _ => true)
 (fun _ _ _ => true)
 (fun _ ih => ih)
 (fun _ _ => true)
 (true) (fun _ _ hx hxs => (@Bool.rec (fun _ => _) (false) (hxs) (hx))) v
def ownF (v : V) (L : Nat) (ds : List Nat) : Bool := @V.rec (fun _ => (Nat) → (List Nat) → Bool) (fun _ => (Nat) → (List Nat) → Bool)
 (fun _ _ => true)
 (fun _ _ _ _ => true)
 (fun _ _ _ _ => true)
 (fun _ _ _ => true)
 (fun _ _ _ _ => true)
 (fun _ _ => true)
 (fun _ _ => true)
 (fun _ _ => true)
 (fun _ _ => true)
 (fun _ _ _ => true)
 (fun _ _ _ _ _ => true)
 (fun l _ _ _ L ds => inF L ds l)
 (fun _ _ _ _ => true)
 (fun _ _ _ _ _ _ _ => true)
 (fun _ _ _ _ _ _ => true)
 (fun _ _ _ _ _ => true)
 (fun _ ih L ds => ih L ds)
 (fun _ _ _ _ => true)
 (fun _ _ => true) (fun _ _ hx hxs L ds => (@Bool.rec (fun _ => _) (false) (hxs L ds) (hx L ds))) v L ds
def ownFL (v : List V) (L : Nat) (ds : List Nat) : Bool := @V.rec_1 (fun _ => (Nat) → (List Nat) → Bool) (fun _ => (Nat) → (List Nat) → Bool)
 (fun _ _ => true)
 (fun _ _ _ _ => true)
 (fun _ _ _ _ => true)
 (fun _ _ _ => true)
 (fun _ _ _ _ => true)
 (fun _ _ => true)
 (fun _ _ => true)
 (fun _ _ => true)
 (fun _ _ => true)
 (fun _ _ _ => true)
 (fun _ _ _ _ _ => true)
 (fun l _ _ _ L ds => inF L ds l)
 (fun _ _ _ _ => true)
 (fun _ _ _ _ _ _ _ => true)
 (fun _ _ _ _ _ _ => true)
 (fun _ _ _ _ _ => true)
 (fun _ ih L ds => ih L ds)
 (fun _ _ _ _ => true)
 (fun _ _ => true) (fun _ _ hx hxs L ds => (@Bool.rec (fun _ => _) (false) (hxs L ds) (hx L ds))) v L ds
def shutV0 (v : V) (w : V) : Bool := @V.rec (fun _ => (V) → Bool) (fun _ => Unit)
 (fun w => cl w)
 (fun _ _ w => cl w)
 (fun _ _ w => cl w)
 (fun _ w => cl w)
 (fun _ _ w => cl w)
 (fun w => cl w)
 (fun w => cl w)
 (fun w => cl w)
 (fun w => cl w)
 (fun _ w => cl w)
 (fun _ _ _ w => cl w)
 (fun _ _ _ _ w => cl w)
 (fun _ _ w => cl w)
 (fun _ _ _ _ _ w => cl w)
 (fun _ _ _ _ w => cl w)
 (fun _ _ _ w => cl w)
 (fun _ _ w => cl w)
 (fun cs _ _ => clL cs)
 () (fun _ _ _ _ => ()) v w
def shutV (v : V) : Bool := shutV0 v v
def isFn (v : V) (cf : Cf) : Bool := @V.rec (fun _ => (Cf) → Bool) (fun _ => Unit)
 (fun _ => false)
 (fun _ _ _ => false)
 (fun _ _ _ => false)
 (fun _ _ => false)
 (fun _ _ _ => false)
 (fun _ => false)
 (fun _ => false)
 (fun _ => false)
 (fun _ => false)
 (fun g cf => (@Bool.rec (fun _ => _) (kempty (cf.om g)) (false) (Nat.beq g 1000000000)))
 (fun _ _ _ _ => false)
 (fun _ _ _ _ _ => false)
 (fun _ _ _ => false)
 (fun _ _ _ _ _ _ => false)
 (fun _ _ _ _ _ => false)
 (fun g cs _ cf => (@Bool.rec (fun _ => _) (false) ((@Bool.rec (fun _ => _) (false) (kempty cs) (kempty (cf.om g)))) (Nat.blt g 1000000000)))
 (fun _ _ _ => false)
 (fun _ _ _ => false)
 () (fun _ _ _ _ => ()) v cf
def isPtr (v : V)  : Bool := @V.rec (fun _ => Bool) (fun _ => Unit)
 (false)
 (fun _ _ => false)
 (fun _ _ => false)
 (fun _ => false)
 (fun _ _ => false)
 (false)
 (false)
 (false)
 (false)
 (fun _ => false)
 (fun _ _ _ => false)
 (fun _ _ _ _ => false)
 (fun _ _ => true)
 (fun _ _ _ _ _ => false)
 (fun _ _ _ _ => false)
 (fun _ _ _ => false)
 (fun _ _ => false)
 (fun _ _ => false)
 () (fun _ _ _ _ => ()) v
def newF1 (L : Nat) (f : Foot) (x : Nat) : Bool := (@Bool.rec (fun _ => _) (false) (inF L f.2 x) (inF L f.1 x))
def newF (L : Nat) (f : Foot) (d : Option Nat) : Bool := @Option.rec Nat (fun _ => Bool) false (fun d => newF1 L f (Nat.add (Nat.mul L 4294967296) d)) d
def appF (v : V) (L : Nat) (f : Foot) (d : Option Nat) : Bool := @V.rec (fun _ => (Nat) → (Foot) → (Option Nat) → Bool) (fun _ => Unit)
 (fun L f d => newF L f d)
 (fun _ _ L f d => newF L f d)
 (fun _ _ L f d => newF L f d)
 (fun _ L f d => newF L f d)
 (fun _ _ L f d => newF L f d)
 (fun L f d => newF L f d)
 (fun L f d => newF L f d)
 (fun L f d => newF L f d)
 (fun L f d => newF L f d)
 (fun _ L f d => newF L f d)
 (fun _ _ _ L f d => newF L f d)
 (fun l _ _ _ L f _ => newF1 L f l)
 (fun _ _ L f d => newF L f d)
 (fun _ _ _ _ _ L f d => newF L f d)
 (fun _ _ _ _ L f d => newF L f d)
 (fun _ _ _ L f d => newF L f d)
 (fun _ _ L f d => newF L f d)
 (fun _ _ L f d => newF L f d)
 () (fun _ _ _ _ => ()) v L f d
def twoF (L : Nat) (f : Foot) (v : V) : Bool := (@Bool.rec (fun _ => _) (false) (atF v L f.2) (atF v L f.1))
abbrev Fx := Cf → Nat → Option Nat → Foot → SL → KS → V → Bool
def fYes : Fx := fun _ _ _ _ _ _ _ => true
def fNo : Fx := fun _ _ _ _ _ _ _ => false
def fAt (x : O) : Fx := fun _ L _ f s _ _ => atF (eO s x) L f.1
def shutK (args : List V) (S : KS) : Bool := @Option.rec An (fun _ => Bool) false (fun _ => true) (snArgs args [] 0 S fun as _ => (@Bool.rec (fun _ => _) (none) (some (.u, [])) (clL as)))
def shutK2 (L : Nat) (f : Foot) (args : List V) (S : KS) : Bool := @Option.rec An (fun _ => Bool) false (fun _ => true) (snArgs args [] 0 S fun as ls => (@Bool.rec (fun _ => _) (none) ((@Bool.rec (fun _ => _) (none) (some (.u, [])) (kall (fun l => inF L f.2 l) ls))) (clL as)))
def lowD (cf : Cf) (L : Nat) (f : Foot) (g : Nat) (args as caps : List V) (ls : List Nat) : Bool :=
 (@Bool.rec (fun _ => _) ((@Bool.rec (fun _ => _) (@Option.rec Nat (fun _ => Bool) false (fun q => (@Bool.rec (fun _ => _) (false) ((@Bool.rec (fun _ => _) (false) (inF L f.2 q) (kall (fun l => inF L f.2 l) ls))) (ownFL args L f.1))) (shK (cf.om g) as caps)) ((@Bool.rec (fun _ => _) (false) ((@Bool.rec (fun _ => _) (false) ((@Bool.rec (fun _ => _) (false) (kin 9999999 f.2) (kin 9999999 f.1))) (kall (fun l => inF L f.2 l) ls))) (ownFL args L f.1))) (lowK cf L g (kapp as caps)))) (false) (plK L (cf.om g) as caps))
def lowG (cf : Cf) (L : Nat) (f : Foot) (g : Nat) (args caps : List V) (S : KS) : Bool :=
 (@Bool.rec (fun _ => _) (@Option.rec An (fun _ => Bool) false (fun _ => true) (snArgs args (cf.om g) 0 S fun as ls => (@Bool.rec (fun _ => _) (none) (some (.u, [])) (lowD cf L f g args as caps ls)))) (false) (Nat.beq g 1000000000))
def lowN (L : Nat) (d : Option Nat) (f : Foot) (v : V) : Bool := (@Bool.rec (fun _ => _) (@Option.rec Nat (fun _ => Bool) false (fun n => (@Bool.rec (fun _ => _) (false) (newF L f (some (Nat.mul 1000 (Nat.succ n)))) (Nat.blt n 1000000))) d) (true) (lvV v (Nat.sub L 1)))
def lowF (v : V) (cf : Cf) (L : Nat) (f : Foot) (args : List V) (S : KS) : Bool := @V.rec (fun _ => (Cf) → (Nat) → (Foot) → (List V) → (KS) → Bool) (fun _ => Unit)
 (fun _ _ _ _ _ => false)
 (fun _ _ _ _ _ _ _ => false)
 (fun _ _ _ _ _ _ _ => false)
 (fun _ _ _ _ _ _ => false)
 (fun _ _ _ _ _ _ _ => false)
 (fun _ _ _ _ _ => false)
 (fun _ _ _ _ _ => false)
 (fun _ _ _ _ _ => false)
 (fun _ _ _ _ _ => false)
 (fun g cf L f args S => lowG cf L f g args [] S)
 (fun _ _ _ _ _ _ _ _ => false)
 (fun _ _ _ _ _ _ _ _ _ => false)
 (fun _ _ _ _ _ _ _ => false)
 (fun _ _ _ _ _ _ _ _ _ _ => false)
 (fun _ _ _ _ _ _ _ _ _ => false)
 (fun g cs _ cf L f args S => (@Bool.rec (fun _ => _) (false) (lowG cf L f g args cs S) (Nat.blt g 1000000000)))
 (fun _ _ _ _ _ _ _ => false)
 (fun _ _ _ _ _ _ _ => false)
 () (fun _ _ _ _ => ()) v cf L f args S
def fitX (y : Y) (u8 : Cf) (L : Nat) (d : Option Nat) (f : Foot) (s : SL) (S : KS) (v : V) : Bool := @Y.rec (fun _ => Fx)
 (fun _ => fYes)
 (fun _ _ _ => fYes)
 (fun _ _ _ => fYes)
 (fun _ _ _ => fYes)
 (fun _ => fYes)
 (fun _ => fYes)
 (fun _ => fYes)
 (fun _ _ => fYes)
 (fun _ _ _ => fYes)
 (fun _ _ => fYes)
 (fun _ => fYes)
 (fun _ _ _ => fYes)
 (fun _ => fYes)
 (fun _ => fYes)
 (fun _ _ a => fAt a)
 (fun _ a x _ L _ f s _ _ => (@Bool.rec (fun _ => _) (false) ((@Bool.rec (fun _ => _) (noOwn (eO s x)) (true) (isPtr (eO s a)))) (twoF L f (eO s a))))
 (fun _ _ => fYes)
 (fun _ _ _ _ => fYes)
 (fun _ _ _ _ _ => fYes)
 (fun _ x _ => fAt x)
 (fun _ _ _ _ => fYes)
 (fun _ _ _ _ _ _ L d f _ _ _ => newF L f d)
 (fun e _ ps cf L d f s _ _ => (@Bool.rec (fun _ => _) (false) ((@Bool.rec (fun _ => _) (ownFL (eL ps s) L f.2) (true) (noOwnL (eL ps s)))) ((@Bool.rec (fun _ => _) (newF L f d) (true) (kin (Nat.add e (Nat.mul 1000000 L)) (cf.om 1000000002))))))
 (fun e _ x y u8 L d f s _ v => (@Bool.rec (fun _ => _) (false) ((@Bool.rec (fun _ => _) (appF (eO s x) L f d) (false) (appD u8 L e))) (atF (eO s y) L f.1)))
 (fun _ _ => fNo)
 (fun _ x _ _ _ => fAt x)
 (fun _ _ _ => fYes)
 (fun _ _ _ L d f _ _ _ => newF L f d)
 (fun _ _ _ L d f _ _ _ => newF L f d)
 (fun _ => fYes)
 (fun x => fAt x)
 (fun _ _ => fYes)
 (fun _ _ => fYes)
 (fun fo args cf L d f s S v => (@Bool.rec (fun _ => _) ((@Bool.rec (fun _ => _) (false) (lowN L d f v) (lowF (eO s fo) cf L f (eL args s) S))) ((@Bool.rec (fun _ => _) (false) ((@Bool.rec (fun _ => _) ((@Bool.rec (fun _ => _) (false) (shutV v) (shutK2 L f (eL args s) S))) ((@Bool.rec (fun _ => _) (false) (shutV v) (shutK (eL args s) S))) ((@Bool.rec (fun _ => _) ((@Bool.rec (fun _ => _) (true) (false) (hlV v))) (true) (noOwnL (eL args s)))))) (ownFL (eL args s) L f.1))) (isFn (eO s fo) cf)))
 (fun _ => fYes)
 fNo
 (fun _ _ _ => fYes)
 (fun _ => fNo)
 (fun _ _ _ => fNo)
 (fun _ _ _ => fNo)
 (fun _ _ _ _ _ => fNo)
 (fun x => fAt x)
 (fun _ x _ _ L _ f s _ _ => twoF L f (eO s x)) y u8 L d f s S v
def okS1 (F : KT) (q : Bool) (L : Nat) (r : Bool) : Bool := @List.rec (Nat × KO) (fun _ => Bool → Nat → Bool → Bool) (fun _ _ r => r) (fun a _ _ q L _ => (@Bool.rec (fun _ => _) (false) (Nat.ble (lev a.1) L) (q))) F q L r
def okS (S : KS) (L : Nat) : Bool := @List.rec (Nat × KT) (fun _ => Nat → Bool) (fun _ => true) (fun e _ ih L => (@Bool.rec (fun _ => _) (okS1 e.2 (Nat.beq e.1 (Nat.div L 32)) L (ih L)) (true) (Nat.blt e.1 (Nat.div L 32)))) S L
def subF (f : Foot) : Bool := kall (fun d => kin d f.1) f.2
def fitK (y : Y) (u8 : Cf) (L : Nat) (d : Option Nat) (f : Foot) (s : SL) (S : KS) (v : V) (S' : KS) (k : Option An) : Option An :=
 (@Bool.rec (fun _ => _) (none) ((@Bool.rec (fun _ => _) (none) ((@Bool.rec (fun _ => _) (none) ((@Bool.rec (fun _ => _) (none) (k) (fitX y u8 L d f s S v))) (subF f))) (okS S' L))) (okS S L))
def bEq (a b : Bool) : Bool := (@Bool.rec (fun _ => _) ((@Bool.rec (fun _ => _) (true) (false) (b))) (b) (a))
def gK (v : V) (w : Bool) (a : Option An) (b : Option An) : Option An := @V.rec (fun _ => (Bool) → (Option An) → (Option An) → Option An) (fun _ => Unit)
 (fun _ _ _ => none)
 (fun _ _ _ _ _ => none)
 (fun _ _ _ _ _ => none)
 (fun q w a b => (@Bool.rec (fun _ => _) (b) (a) (bEq q w)))
 (fun _ _ _ _ _ => none)
 (fun _ _ _ => none)
 (fun _ _ _ => none)
 (fun _ _ _ => none)
 (fun _ _ _ => none)
 (fun _ _ _ _ => none)
 (fun _ _ _ _ _ _ => none)
 (fun _ _ _ _ _ _ _ => none)
 (fun _ _ _ _ _ => none)
 (fun _ _ _ _ _ _ _ _ => none)
 (fun _ _ _ _ _ _ _ => none)
 (fun _ _ _ _ _ _ => none)
 (fun _ _ _ _ _ => none)
 (fun cs _ _ _ b => @List.rec V (fun _ => Option An) b (fun _ _ _ => none) cs)
 () (fun _ _ _ _ => ()) v w a b
def opsK (l : KL) (call : CallK) (u8 : Cf) (L : Nat) (s : SL) (S : KS) (k : SL → KS → Option An) : Option An :=
 @KL.rec (fun _ => CallK → Cf → Nat → SL → KS → (SL → KS → Option An) → Option An) (fun _ _ _ s S k => k s S)
  (fun d x _ ih call u8 L s S k => xK x call u8 L (some d) s S fun v S' => ih call u8 L (.cons d v s) S' k)
  (fun x _ ih call u8 L s S k => xK x call u8 L none s S fun _ S' => ih call u8 L s S' k)
  (fun d j w x _ ih call u8 L s S k => gK (kg s j) w (xK x call u8 L (some d) s S fun v S' => ih call u8 L (.cons d v s) S' k) (ih call u8 L (.cons d (.tup []) s) S k))
  (fun j w x _ ih call u8 L s S k => gK (kg s j) w (xK x call u8 L none s S fun _ S' => ih call u8 L s S' k) (ih call u8 L s S k)) l call u8 L s S k
abbrev Qk := CallK → Cf → Nat → SL → KS → (SL → KS → Option An) → Option An
def qK (l : KL) (fs : List Foot) : Qk :=
 @KL.rec (fun _ => List Foot → Qk) (fun _ _ _ _ s S k => k s S)
  (fun d x _ ih fs => @List.rec Foot (fun _ => Qk) (fun _ _ _ _ _ _ => none) (fun f fr _ call u8 L s S k => xK x call u8 L (some d) s S fun v S' => fitK x u8 L (some d) f s S v S' (ih fr call u8 L (.cons d v s) S' k)) fs)
  (fun x _ ih fs => @List.rec Foot (fun _ => Qk) (fun _ _ _ _ _ _ => none) (fun f fr _ call u8 L s S k => xK x call u8 L none s S fun v S' => fitK x u8 L none f s S v S' (ih fr call u8 L s S' k)) fs)
  (fun d j w x _ ih fs => @List.rec Foot (fun _ => Qk) (fun _ _ _ _ _ _ => none) (fun f fr _ call u8 L s S k => (@Bool.rec (fun _ => _) (none) ((@Bool.rec (fun _ => _) (none) (gK (kg s j) w (xK x call u8 L (some d) s S fun v S' => fitK x u8 L (some d) f s S v S' (ih fr call u8 L (.cons d v s) S' k)) (ih fr call u8 L (.cons d (.tup []) s) S k)) (subF f))) (okS S L))) fs)
  (fun j w x _ ih fs => @List.rec Foot (fun _ => Qk) (fun _ _ _ _ _ _ => none) (fun f fr _ call u8 L s S k => (@Bool.rec (fun _ => _) (none) ((@Bool.rec (fun _ => _) (none) (gK (kg s j) w (xK x call u8 L none s S fun v S' => fitK x u8 L none f s S v S' (ih fr call u8 L s S' k)) (ih fr call u8 L s S k)) (subF f))) (okS S L))) fs) l fs
abbrev Kn := SL → KS → Option An
abbrev Ck := CallK → Cf → Nat → Nat → SL → KS → Kn → (Nat → Kn) → Kn → Option An
def loopK (n : Nat) (h : Head) (body : SL → KS → Kn → Option An) (L : Nat) (s : SL) (S : KS) : Option An :=
 @Nat.rec (fun _ => Head → (SL → KS → Kn → Option An) → Nat → SL → KS → Option An) (fun _ _ _ _ _ => none) (fun _ again h body L s S => hdK h L s S fun s S => body s S (again h body L)) n h body L s S
def codeK (c : KC) : Ck :=
 @KC.rec (fun _ => Ck)
  (fun _ _ _ _ s S kn _ _ => kn s S)
  (fun l call u8 _ L s S kn _ _ => opsK l call u8 L s S kn)
  (fun l f call u8 _ L s S kn _ _ => qK l f call u8 L s S kn)
  (fun _ _ iha ihb call u8 lf L s S kn ke kr => iha call u8 lf L s S (fun s S => ihb call u8 lf L s S kn ke kr) ke kr)
  (fun c _ _ iha ihb call u8 lf L s S kn ke kr => onB (eO s c) fun q => (@Bool.rec (fun _ => _) (ihb call u8 lf L s S kn ke kr) (iha call u8 lf L s S kn ke kr) (q)))
  (fun id _ ih call u8 lf L s S kn ke kr => ih call u8 lf L s S kn (fun i s S => (@Bool.rec (fun _ => _) (ke i s S) (kn s S) (Nat.beq i id))) kr)
  (fun h _ ih call u8 lf L s S _ ke kr => loopK lf h (fun s S kn => ih call u8 lf L s S kn ke kr) L s S)
  (fun h id _ _ _ L s S _ ke _ => lvK h L s S (ke id))
  (fun h _ _ _ L s S _ _ kr => lvK h L s S kr) c
def kargs (args : List V) : SL := @List.rec V (fun _ => Nat → SL) (fun _ => .nil) (fun v _ ih i => .cons i v (ih (Nat.succ i))) args (nat_lit 0)
def resK (r : List KR) (s : SL) (S : KS) (k : List V → Option An) : Option An := @List.rec KR (fun _ => SL → KS → (List V → Option An) → Option An) (fun _ _ k => k [])
 (fun x _ ih s S k => @KR.rec (fun _ => Option An) (fun t => ih s S fun l => k (kg s t :: l)) (fun a ag n => loadK (kg s a) ag n S fun x => ih s S fun l => k (x :: l)) x) r s S k
def oneK (ts : List V) : V := @List.rec V (fun _ => V) (.tup []) (fun t r _ => @List.rec V (fun _ => V) t (fun _ _ _ => .tup (t :: r)) r) ts
inductive BT where
 | leaf
 | node (f : Nat) (F : KF) (l r : BT)
def BT.get (b : BT) (x : Nat) : Option KF := @BT.rec (fun _ => Nat → Option KF) (fun _ => none) (fun f F _ _ ihl ihr x => (@Bool.rec (fun _ => _) ((@Bool.rec (fun _ => _) (ihr x) (ihl x) (Nat.blt x f))) (some F) (Nat.beq x f))) b x
structure KE where
 F : BT
 u8 : Cf
 lf : Nat
 X : Nat → Option (List V → Option V)
 M : Nat → List V → Option V
def leaveK (F : KF) (L : Nat) (k : V → KS → Option An) (s : SL) (S : KS) : Option An := resK F.r s S fun ts => handK F.z (Nat.succ L) (oneK ts) S k
def bodyK (E : KE) (call : CallK) (L : Nat) (F : KF) (args : List V) (S : KS) (k : V → KS → Option An) : Option An :=
 (@Bool.rec (fun _ => _) (none) (codeK F.c call E.u8 E.lf (Nat.succ L) (kargs args) S (leaveK F L k) (fun _ _ _ => none) (leaveK F L k)) (Nat.ble (klen args) F.n))
def orcK (g : List V → Option V) (args : List V) (S : KS) (k : V → KS → Option An) : Option An := sk (g args) fun r => (@Bool.rec (fun _ => _) (none) ((@Bool.rec (fun _ => _) ((@Bool.rec (fun _ => _) (none) (k r S) (clL args))) (none) (hlV r))) (cl r))
def fnK (E : KE) (call : CallK) (L f : Nat) (args : List V) (S : KS) (k : V → KS → Option An) : Option An :=
 @Option.rec _ (fun _ => Option An) (@Option.rec KF (fun _ => Option An) none (fun F => bodyK E call L F args S k) (E.F.get f)) (fun g => orcK g args S k) (E.X f)
def callM (E : KE) (call : CallK) : CallK := fun L f args S k =>
 @Nat.rec (fun _ => Option An) (@List.rec (Nat × KT) (fun _ => Option An) (@Option.rec V (fun _ => Option An) (fnK E call L f args S k) (fun r => k r []) (E.M f args)) (fun _ _ _ => fnK E call L f args S k) S) (fun _ _ => fnK E call L f args S k) L
def callK (E : KE) (n : Nat) : CallK := @Nat.rec (fun _ => CallK) (fun _ _ _ _ _ => none) (fun _ ih => callM E ih) n
def runK (E : KE) (n f : Nat) (args : List V) : Option An := callK E n 0 f args [] fun v S => some (v, S)
end
end Go.TM
