/- Light code in its fast form: values and syntax. -/
import Derived.Test.YtgmclgajlofljaaGreatDoorTmAbb
set_option linter.all false
namespace Go.TM
open Go
inductive V where
 | u
 | p (c n : Nat)
 | m (c n : Nat)
 | b (q : Bool)
 | s (len n : Nat)
 | np | ns | nf | ni
 | fn (f : Nat)
 | lst (sz : Nat) (xs : List V)
 | own (l g off len : Nat)
 | ptr (l off : Nat)
 | lptr (sz : Nat) (xs : List V) (i off : Nat)
 | aptr (l g i off : Nat)
 | clo (f : Nat) (caps : List V)
 | agg (cs : List V)
 | tup (cs : List V)
def lc (k : Nat) : Loc := (k / 4294967296, k % 4294967296)
def lk (l : Loc) : Nat := l.1 * 4294967296 + l.2
def kd (c : Nat) : IntKind :=
 bif Nat.beq c 9223372036854775808 then .i64 else bif Nat.beq c 256 then .u8 else bif Nat.beq c 2147483648 then .i32 else bif Nat.beq c 4294967296 then .u32 else
 bif Nat.beq c 18446744073709551616 then .u64 else bif Nat.beq c 65536 then .u16 else bif Nat.beq c 32768 then .i16 else .i8
def okc (c : Nat) : Bool :=
 bif Nat.beq c 9223372036854775808 then true else bif Nat.beq c 256 then true else bif Nat.beq c 2147483648 then true else bif Nat.beq c 4294967296 then true else
 bif Nat.beq c 18446744073709551616 then true else bif Nat.beq c 65536 then true else bif Nat.beq c 32768 then true else Nat.beq c 128
def bytesN : Nat → Nat → List UInt8
 | 0, _ => []
 | k + 1, n => UInt8.ofNat (n % 256) :: bytesN k (n / 256)
def bstr (len n : Nat) : ByteArray := ⟨(bytesN len n).toArray⟩
mutual
def V.t : V → T
 | .u => .undef
 | .p c n => .sc (.int (kd c) (n : Int))
 | .m c n => .sc (.int (kd c) (Int.negSucc n))
 | .b q => .sc (.bool q)
 | .s len n => .sc (.string (bstr len n))
 | .np => .sc (.pointer none)
 | .ns => .sc (.slice none 0 0)
 | .nf => .sc .nilFunc
 | .ni => .sc .nilIface
 | .fn f => .sc (.func (.func f) #[] #[])
 | .lst sz xs => .lst sz (V.tL xs)
 | .own l g off len => .own (lc l) g off len
 | .ptr l off => .ptr (lc l) off
 | .lptr sz xs i off => .lptr sz (V.tL xs) i off
 | .aptr l g i off => .aptr (lc l) g i off
 | .clo f cs => .clo f (V.tL cs)
 | .agg cs => .agg (V.tL cs)
 | .tup cs => .tup (V.tL cs)
def V.tL : List V → List T
 | [] => []
 | x :: xs => x.t :: V.tL xs
end
theorem tL_map : ∀ xs, V.tL xs = xs.map V.t
 | [] => by simp only [V.tL, List.map_nil]
 | x :: xs => by simp only [V.tL, List.map_cons, tL_map xs]
inductive O where
 | t (n : Nat)
 | p (c n : Nat)
 | m (c n : Nat)
 | b (q : Bool)
 | s (len n : Nat)
 | np | ns | nf | ni
 | f (n : Nat)
def O.t' : O → Operand
 | .t n => .tmp n
 | .p c n => .const (.int (kd c) (n : Int))
 | .m c n => .const (.int (kd c) (Int.negSucc n))
 | .b q => .const (.bool q)
 | .s len n => .const (.string (bstr len n))
 | .np => .const (.pointer none)
 | .ns => .const (.slice none 0 0)
 | .nf => .const .nilFunc
 | .ni => .const .nilIface
 | .f n => .func n
inductive Y where
 | mv (x : O)
 | pick (c a b : O)
 | bin (op : BinOp) (x y : O)
 | beq (ne : Bool) (x y : O)
 | not (x : O)
 | neg (x : O)
 | lenS (x : O)
 | idxS (x i : O)
 | cutS (x : O) (lo hi : Option O)
 | cv (c : Nat) (x : O)
 | i2s (x : O)
 | mm (mx : Bool) (x y : O)
 | len (x : O)
 | capn (x : O)
 | load (ag : Bool) (n : Nat) (a : O)
 | store (n : Nat) (a v : O)
 | faddr (o : Nat) (a : O)
 | field (o n : Nat) (ag : Bool) (x : O)
 | aidx (ag : Bool) (sz n : Nat) (x i : O)
 | iaddr (sz : Nat) (x i : O)
 | iaddrA (len sz : Nat) (x i : O)
 | mk (sz : Nat) (e : Nat) (z : V) (l c : O)
 | bsl (e : Nat) (sz : Nat) (parts : List O)
 | app (e : Nat) (sz : Nat) (x y : O)
 | cpy (x y : O)
 | slc (sz : Nat) (x : O) (lo hi mx : Option O)
 | bld (ps : List (Nat × Nat)) (z : List V) (parts : List (Nat × O))
 | alloc (e : Nat) (z : List V)
 | box (e : Nat) (x : O)
 | s2b (x : O)
 | b2s (x : O)
 | mkf (f : Nat) (caps : List O)
 | ext (x : O) (j : Nat)
 | call (f : O) (args : List O)
 | nck (x : O)
 | bad
 | peq (ng : Bool) (x y : O)
 | toU (x : O)
 | ofU (u : List Nat) (n : Nat) (x : O)
 | apps (e : Nat) (x y : O)
 | appz (e : Nat) (sz : Nat) (z : V) (x y : O)
 | usd (x : O)
 | ustr (e : Nat) (p n : O)
def oO : Option O → Option Operand
 | some x => some x.t'
 | none => none
def Y.x : Y → X
 | .mv x => .mv x.t'
 | .pick c a b => .pick c.t' a.t' b.t'
 | .bin op x y => .bin op x.t' y.t'
 | .beq ne x y => .beq ne x.t' y.t'
 | .not x => .not x.t'
 | .neg x => .neg x.t'
 | .lenS x => .lenS x.t'
 | .idxS x i => .idxS x.t' i.t'
 | .cutS x lo hi => .cutS x.t' (oO lo) (oO hi)
 | .cv c x => .cv (kd c) x.t'
 | .i2s x => .i2s x.t'
 | .mm mx x y => .mm mx x.t' y.t'
 | .len x => .len x.t'
 | .capn x => .capn x.t'
 | .load ag n a => .load ag n a.t'
 | .store n a v => .store n a.t' v.t'
 | .faddr o a => .faddr o a.t'
 | .field o n ag x => .field o n ag x.t'
 | .aidx ag sz n x i => .aidx ag sz n x.t' i.t'
 | .iaddr sz x i => .iaddr sz x.t' i.t'
 | .iaddrA n sz x i => .iaddrA n sz x.t' i.t'
 | .mk sz e z l c => .mk sz e z.t l.t' c.t'
 | .bsl e sz ps => .bsl e sz (ps.map O.t')
 | .app e sz x y => .app e sz x.t' y.t'
 | .cpy x y => .cpy x.t' y.t'
 | .slc sz x lo hi mx => .slc sz x.t' (oO lo) (oO hi) (oO mx)
 | .bld ps z parts => .bld ps (V.tL z) (parts.map fun p => (p.1, p.2.t'))
 | .alloc e z => .alloc e (V.tL z)
 | .box e x => .box e x.t'
 | .s2b x => .s2b x.t'
 | .b2s x => .b2s x.t'
 | .mkf f caps => .mkf f (caps.map O.t')
 | .ext x j => .ext x.t' j
 | .call f args => .call f.t' (args.map O.t')
 | .nck x => .nck x.t'
 | .bad => .bad
 | .peq ng x y => .peq ng x.t' y.t'
 | .toU x => .toU x.t'
 | .ofU u n x => .ofU u n x.t'
 | .apps e x y => .apps e x.t' y.t'
 | .appz e sz z x y => .appz e sz z.t x.t' y.t'
 | .usd x => .usd x.t'
 | .ustr e p n => .ustr e p.t' n.t'
inductive KL where
 | nil
 | o (d : Nat) (x : Y) (r : KL)
 | on (x : Y) (r : KL)
 | og (d j : Nat) (w : Bool) (x : Y) (r : KL)
 | ong (j : Nat) (w : Bool) (x : Y) (r : KL)
def KL.l : KL → List LOp
 | .nil => []
 | .o d x r => ⟨some d, none, x.x⟩ :: r.l
 | .on x r => ⟨none, none, x.x⟩ :: r.l
 | .og d j w x r => ⟨some d, some (j, w), x.x⟩ :: r.l
 | .ong j w x r => ⟨none, some (j, w), x.x⟩ :: r.l
inductive KC where
 | skip
 | ops (l : KL)
 | drq (l : KL) (k : List Foot)
 | seq (a b : KC)
 | cond (c : O) (a b : KC)
 | block (id : Nat) (c : KC)
 | loop (h : Head) (c : KC)
 | exit (h : Head) (id : Nat)
 | ret (h : Head)
@[reducible] def O.i (n : Nat) : O := .p 9223372036854775808 n
@[reducible] def KL.m (d s : Nat) (r : KL) : KL := .o d (.mv (.t s)) r
@[reducible] def KL.e (d : Nat) (x : Y) : KL := .o d x .nil
@[reducible] def KC.q (l : KL) (b : KC) : KC := .seq (.ops l) b
@[reducible] def KC.v (l : List Nat) : KC := .ret ⟨[], l, l, true⟩
@[reducible] def KC.w (l : List Nat) : KC := .ret ⟨[], l, [], false⟩
def KC.c : KC → LC
 | .skip => .skip
 | .ops l => .ops l.l
 | .drq l k => .drq l.l k
 | .seq a b => .seq a.c b.c
 | .cond c a b => .cond c.t' a.c b.c
 | .block id c => .block id c.c
 | .loop h c => .loop h c.c
 | .exit h id => .exit h id
 | .ret h => .ret h
inductive KR where
 | tmp (t : Nat)
 | cell (a : Nat) (ag : Bool) (n : Nat)
def KR.r : KR → RV
 | .tmp t => .tmp t
 | .cell a ag n => .cell a ag n
structure KF where
 n : Nat
 c : KC
 r : List KR
 z : Bool
def KF.f (F : KF) : LF := ⟨F.n, F.c.c, F.r.map KR.r, F.z⟩
end Go.TM
