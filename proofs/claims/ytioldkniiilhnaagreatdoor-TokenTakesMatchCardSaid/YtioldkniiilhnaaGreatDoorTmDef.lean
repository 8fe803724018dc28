/- An evaluator of loaded code over trees: slices are lists, variables and own arrays lie in a small store. Definitions only. -/
import Derived.Calls
import Derived.Scope
import Derived.Orders
set_option linter.all false
namespace Go.TM
open Go

abbrev Loc := Nat × Nat

inductive T where
 | undef
 | sc (v : Value)
 | lst (sz : Nat) (xs : List T)
 | own (l : Loc) (g off len : Nat)
 | ptr (l : Loc) (off : Nat)
 | lptr (sz : Nat) (xs : List T) (i off : Nat)
 | aptr (l : Loc) (g i off : Nat)
 | clo (f : FuncId) (caps : List T)
 | agg (cs : List T)
 | tup (cs : List T)
 deriving Inhabited

inductive Obj where
 | box (bt : TypeId) (cs : List T)
 | arr (ro : Bool) (g sz : Nat) (e : TypeId) (xs : List T)
 | gone
 deriving Inhabited

abbrev Store := Loc → Option Obj
abbrev Slots := List (Nat × T)

def emp : Store := fun _ => none
def upd (S : Store) (l : Loc) (o : Obj) : Store := fun m => if m = l then some o else S m
def trunc (L : Nat) (S : Store) : Store := fun m => if m.1 ≤ L then S m else none

def T.cells : T → List T
 | .agg cs => cs
 | t => [t]

def isSc : Value → Bool
 | .bool _ | .int _ _ | .string _ | .pointer none | .nilFunc | .nilIface => true
 | .slice none n c => n == 0 && c == 0
 | .func (.func _) a b => a.size == 0 && b.size == 0
 | _ => false

def one : T → Bool
 | .agg _ | .tup _ | .undef => false
 | _ => true

mutual
/-- No place in it: numbers, strings, shared lists and records of these. -/
def closed : T → Bool
 | .sc v => isSc v
 | .lst _ xs => closedL xs
 | .agg cs => closedL cs && cs.all one
 | _ => false
def closedL : List T → Bool
 | [] => true
 | x :: xs => closed x && closedL xs
end

mutual
/-- All places are of level n or below. -/
def lvle (n : Nat) : T → Bool
 | .own l _ _ _ | .ptr l _ | .aptr l _ _ _ => l.1 ≤ n
 | .clo _ cs | .agg cs | .tup cs => lvleL n cs
 | _ => true
def lvleL (n : Nat) : List T → Bool
 | [] => true
 | x :: xs => lvle n x && lvleL n xs
end

mutual
/-- Does it bear a shared list? -/
def hasLst : T → Bool
 | .lst .. => true
 | .lptr .. => true
 | .clo _ cs | .agg cs | .tup cs => hasLstL cs
 | _ => false
def hasLstL : List T → Bool
 | [] => false
 | x :: xs => hasLst x || hasLstL xs
end

def get (s : Slots) (d : Nat) : T := (s.lookup d).getD .undef

def evV (v : Value) : Option T := if isSc v then some (.sc v) else none

def ev (s : Slots) : Operand → Option T
 | .tmp t => some (get s t)
 | .const v => evV v
 | .func f => some (.sc (.func (.func f) #[] #[]))
 | .global _ => none

def evL (s : Slots) : List Operand → Option (List T)
 | [] => some []
 | x :: xs => match ev s x, evL s xs with
  | some a, some l => some (a :: l)
  | _, _ => none

/-- A computation that asks nothing of the world. -/
def pureRun {α : Type} (P : Program) : Sem α → Option α
 | .pure a => some a
 | .program k => pureRun P (k P)
 | .mark _ k => pureRun P k
 | _ => none

def scV (s : Slots) (x : Operand) : Value :=
 match ev s x with
 | some (.sc v) => v
 | _ => undef

def isScO (s : Slots) (x : Operand) : Bool :=
 match ev s x with
 | some (.sc _) => true
 | _ => false

/-- Which operations may be run on plain values. -/
def plainOp : Op → Bool
 | .binOp .. | .unOp .. | .convert .. | .index .. | .slice .. => true
 | .call { callee := .builtin .len, .. } | .call { callee := .builtin .min, .. } | .call { callee := .builtin .max, .. } => true
 | _ => false

def ruleA (P : Program) (o : Oper) (s : Slots) : Option T :=
 if plainOp o.op && o.op.operands.all (isScO s) then
  match pureRun P (execOp (scV s) o) with
  | some (.value v) => if isSc v then some (.sc v) else none
  | _ => none
 else none

def szOf (P : Program) (t : TypeId) : Option Nat := (P.info? t).map (·.size)

def isAggT (P : Program) (t : TypeId) : Option Bool :=
 match P.underlying t with
 | some (.struct _) | some (.array _ _) => some true
 | some _ => some false
 | none => none

def readAt (agg : Bool) (n : Nat) (cs : List T) (off : Nat) : Option T :=
 if agg then (if ((cs.drop off).take n).length = n then some (.agg ((cs.drop off).take n)) else none) else cs[off]?

def splice (cs : List T) (off : Nat) (ys : List T) : List T := cs.take off ++ ys ++ cs.drop (off + ys.length)

mutual
/-- Its lists as they now stand, shared; and whose they are. -/
def snap (S : Store) : T → Option (T × List Loc)
 | .own l g off len => match S l with
  | some (.arr _ g' sz _ xs) => if g = g' ∧ off + len ≤ xs.length then some (.lst sz ((xs.drop off).take len), [l]) else none
  | _ => none
 | .agg cs => match snapL S cs with
  | some (ds, ls) => some (.agg ds, ls)
  | none => none
 | t => some (t, [])
def snapL (S : Store) : List T → Option (List T × List Loc)
 | [] => some ([], [])
 | x :: xs => match snap S x, snapL S xs with
  | some (y, l), some (ys, ls) => some (y :: ys, l ++ ls)
  | _, _ => none
end

/-- From now on read only. -/
def setRo (S : Store) (ls : List Loc) : Store := fun m =>
 match S m with
 | some (.arr ro g sz e xs) => some (.arr (ro || ls.contains m) g sz e xs)
 | o => o

/-- What is put into a row: its own lists become shared. -/
def freeze (S : Store) (t : T) : Option (T × Store) :=
 match snap S t with
 | some (u, ls) => if closed u then some (u, setRo S ls) else none
 | none => none

def freezeL (S : Store) : List T → Option (List T × Store)
 | [] => some ([], S)
 | x :: xs => match freeze S x with
  | some (y, S1) => match freezeL S1 xs with
   | some (ys, S2) => some (y :: ys, S2)
   | none => none
  | none => none

structure Res where
 t : T
 S : Store
 eff : Nat

def newBox (L : Nat) (d : Option Tmp) (bt : TypeId) (cs : List T) (S : Store) : Option Res :=
 match d with
 | some d => if (S (L, d)).isNone && lvleL L cs && cs.all one then some ⟨.ptr (L, d) 0, upd S (L, d) (.box bt cs), 1⟩ else none
 | none => none

def newArr (L : Nat) (d : Option Tmp) (sz : Nat) (e : TypeId) (xs : List T) (S : Store) (eff : Nat) : Option Res :=
 match d with
 | some d => if (S (L, d)).isNone then some ⟨.own (L, d) 0 0 xs.length, upd S (L, d) (.arr false 0 sz e xs), eff⟩ else none
 | none => none

def loadT (P : Program) (S : Store) (t : TypeId) (a : T) : Option Res :=
 match isAggT P t, szOf P t with
 | some ag, some n => match a with
  | .ptr l off => match S l with
   | some (.box bt cs) => (readAt ag n cs off).map fun x => ⟨x, S, 1⟩
   | _ => none
  | .lptr _ xs i off => match xs[i]? with
   | some x => (readAt ag n x.cells off).map fun x => ⟨x, S, 0⟩
   | none => none
  | .aptr l g i off => match S l with
   | some (.arr _ g' _ _ xs) => if g = g' then match xs[i]? with
     | some x => (readAt ag n x.cells off).map fun x => ⟨x, S, 1⟩
     | none => none
    else none
   | _ => none
  | _ => none
 | _, _ => none

def storeT (P : Program) (S : Store) (t : TypeId) (a v : T) : Option Res :=
 match szOf P t with
 | some n => if v.cells.length = n then match a with
  | .ptr l off => match S l with
   | some (.box bt cs) => if off + n ≤ cs.length ∧ lvle l.1 v = true ∧ v.cells.all one = true then some ⟨.tup [], upd S l (.box bt (splice cs off v.cells)), 2⟩ else none
   | _ => none
  | .aptr l g i off => match freeze S v with
   | some (u, S1) => match S1 l with
    | some (.arr ro g' sz e xs) => if g = g' ∧ ro = false ∧ i < xs.length ∧ off = 0 ∧ n = sz ∧ u.cells.length = sz then
      some ⟨.tup [], upd S1 l (.arr false g' sz e (xs.set i u)), 2⟩
     else none
    | _ => none
   | none => none
  | _ => none
  else none
 | none => none

def fieldT (P : Program) (s : TypeId) (f : Nat) : Option (Nat × Nat × TypeId) :=
 match P.underlying s with
 | some (.struct fs) => match fs[f]? with
  | some fd => match szOf P fd.type with
   | some n => some (fd.offset, n, fd.type)
   | none => none
  | none => none
 | _ => none

def fieldAddrT (P : Program) (s : TypeId) (f : Nat) (a : T) : Option T :=
 match fieldT P s f with
 | some (o, n, _) => if n = 0 then none else match a with
  | .ptr l off => some (.ptr l (off + o))
  | .lptr sz xs i off => some (.lptr sz xs i (off + o))
  | .aptr l g i off => some (.aptr l g i (off + o))
  | _ => none
 | none => none

def idxOk (i : Int) (n : Nat) : Bool := decide (0 ≤ i) && decide (i < n)

def elemT (P : Program) (t : TypeId) : Option (TypeId × Nat) :=
 match P.underlying t with
 | some (.slice e) => (szOf P e).map fun n => (e, n)
 | _ => none

def indexAddrT (P : Program) (S : Store) (t : TypeId) (x i : T) : Option T :=
 match i with
 | .sc (.int _ n) => match P.underlying t with
  | some (.slice e) => match szOf P e, x with
   | some sz, .lst sz' xs => if sz = sz' then (bif idxOk n xs.length then some (.lptr sz xs n.toNat 0) else none) else none
   | some sz, .own l g off len => match S l with
    | some (.arr _ g' sz' _ xs) => if g = g' ∧ sz = sz' ∧ off + len ≤ xs.length then (bif idxOk n len then some (.aptr l g (off + n.toNat) 0) else none) else none
    | _ => none
   | _, _ => none
  | some (.array len e) => match szOf P e, x with
   | some sz, .ptr l off => bif idxOk n len then some (.ptr l (off + n.toNat * sz)) else none
   | _, _ => none
  | _ => none
 | _ => none

def bytesT (s : ByteArray) : List T := s.data.toList.map fun b => .sc (.int .u8 b.toNat)

def bytesV : List T → Option (List UInt8)
 | [] => some []
 | .sc (.int .u8 n) :: r => (bytesV r).map (UInt8.ofNat n.toNat :: ·)
 | _ => none

/-- A slice's elements. -/
def elemsOf (S : Store) : T → Option (Option Nat × List T × Nat)
 | .lst sz xs => some (some sz, xs, 0)
 | .own l g off len => match S l with
  | some (.arr _ g' sz _ xs) => if g = g' ∧ off + len ≤ xs.length then some (some sz, (xs.drop off).take len, 1) else none
  | _ => none
 | .sc (.slice none _ _) => some (none, [], 0)
 | _ => none

/-- Pointers held against each other. -/
def ptrEq : T → T → Option Bool
 | .ptr l o, .ptr l' o' => if l = l' ∧ o = o' then some true else none
 | .ptr _ _, .sc (.pointer none) => some false
 | .sc (.pointer none), .ptr _ _ => some false
 | .aptr _ _ _ _, .sc (.pointer none) => some false
 | .lptr _ _ _ _, .sc (.pointer none) => some false
 | _, _ => none

def peqT (P : Program) (op : BinOp) (t : TypeId) (x y : T) : Option Bool :=
 match P.underlying t with
 | some (.pointer e) => if (P.info? e).isSome then (match op with
   | .eql => ptrEq x y
   | .neq => (ptrEq x y).map (!·)
   | _ => none) else none
 | _ => none

/-- internal/abi's NoEscape: it gives its pointer back. -/
def isNoEsc (P : Program) : T → Bool
 | .sc (.func (.func g) _ _) => match P.funcs[g]? with
  | some fn => fn.body.isNone && fn.name == "internal/abi.NoEscape" && (Extern.allNextRows.lookup fn.name).isNone && (Extern.allNextRows.lookup fn.origin).isNone
  | none => false
 | _ => false

def isNoEscO (P : Program) : Operand → Bool
 | .func g => isNoEsc P (.sc (.func (.func g) #[] #[]))
 | _ => false

def isByte : T → Bool
 | .sc (.int .u8 n) => decide (0 ≤ n) && decide (n < 256)
 | _ => false

def usdT (S : Store) : T → Option T
 | .own l g off len => match S l with
  | some (.arr _ g' _ _ _) => if g = g' ∧ 0 < len then some (.aptr l g off 0) else none
  | _ => none
 | .sc (.slice none _ _) => some (.sc (.pointer none))
 | _ => none

def ustrT (P : Program) (S : Store) (pt : TypeId) (p n : T) : Option (T × Store) :=
 match p, n with
 | .sc (.pointer none), .sc (.int .i64 n) => if n = 0 then some (.sc (.string .empty), S) else none
 | .aptr l g i off, .sc (.int .i64 n) => match P.underlying pt, S l with
  | some (.pointer e), some (.arr ro g' sz e' xs) => if g = g' ∧ ro = false ∧ i = 0 ∧ off = 0 ∧ sz = 1 ∧ e' = e ∧ P.cellsOf e = 1 ∧ 0 < n ∧ n.toNat ≤ xs.length ∧ n ≤ 9223372036854775807 ∧ (xs.take n.toNat).all isByte = true then
    (bytesV (xs.take n.toNat)).map fun bs => (.sc (.string ⟨bs.toArray⟩), setRo S [l]) else none
  | _, _ => none
 | _, _ => none

def convT (P : Program) (S : Store) (src dst : TypeId) (x : T) : Option Res :=
 match P.underlying src, P.underlying dst, x with
 | some .string, some (.slice e), .sc (.string s) =>
  match P.underlying e with
  | some (.int .u8) => if szOf P e = some 1 then some ⟨.lst 1 (bytesT s), S, 1⟩ else none
  | _ => none
 | some (.slice e), some .string, x =>
  match P.underlying e, elemsOf S x with
  | some (.int .u8), some (some 1, xs, f) => (bytesV xs).map fun bs => ⟨.sc (.string ⟨bs.toArray⟩), S, f⟩
  | _, _ => none
 | some (.pointer t), some .unsafePointer, .ptr l off =>
  match S l, szOf P t with
  | some (.box _ cs), some n => if n ≠ 0 ∧ off < cs.length then some ⟨.ptr l off, S, 1⟩ else none
  | _, _ => none
 | some .unsafePointer, some (.pointer u), .ptr l off =>
  match S l, szOf P u with
  | some (.box bt cs), some _ => if liesAt P P.depth bt (cs.length / P.cellsOf bt) off u 1 = true then some ⟨.ptr l off, S, 1⟩ else none
  | _, _ => none
 | _, _, _ => none

def maxRow : Nat := 1000000000

def zeroT (P : Program) (e : TypeId) : Option T :=
 match P.info? e, isAggT P e with
 | some i, some ag => match i.zero with
  | some z => if z.cells.toList.all isSc && decide (z.cells.size = i.size) && decide (0 < i.size) && decide (i.bytes ≤ 1000) then
    (if ag then some (.agg (z.cells.toList.map .sc)) else if z.cells.size = 1 then (z.cells[0]?).map .sc else none) else none
  | none => none
 | _, _ => none

def makeT (P : Program) (L : Nat) (d : Option Tmp) (S : Store) (t : TypeId) (l c : T) : Option Res :=
 match elemT P t, l, c with
 | some (e, sz), .sc (.int _ n), .sc (.int _ m) =>
  match zeroT P e with
  | some z => if 0 ≤ n ∧ n ≤ m ∧ m ≤ maxRow then newArr L d sz e (List.replicate n.toNat z) S 1 else none
  | none => none
 | _, _, _ => none

/-- Rows of some types that an append begins may lie one level lower (strings.Builder keeps its row in its caller's variable). -/
def lowP (om : FuncId → List Nat) (L : Nat) (d : Option Tmp) (e : TypeId) : Nat × Option Tmp :=
 bif (om 1000000000).contains e && decide (2 ≤ L) then (1, some 7000) else (L, d)

def appendT (P : Program) (om : FuncId → List Nat) (L : Nat) (d : Option Tmp) (S : Store) (t u : TypeId) (x y : T) : Option Res :=
 if t ≠ u then none else
 match elemT P t, elemsOf S y with
 | some (e, sz), some (sy, ys, fy) =>
  if (sy = none ∨ sy = some sz) ∧ (zeroT P e).isSome = true then
   match x with
   | .sc (.slice none _ _) => if ys.isEmpty then some ⟨x, S, fy⟩ else if ys.length ≤ maxRow then newArr (lowP om L d e).1 (lowP om L d e).2 sz e ys S 1 else none
   | .own l g off len => match S l with
    | some (.arr ro g' sz' e' xs) => if g = g' ∧ len ≤ xs.length then
      (if ys.isEmpty then some ⟨x, S, 1⟩
       else if ro = false ∧ off = 0 ∧ sz' = sz ∧ e' = e ∧ len + ys.length ≤ maxRow then
       some ⟨.own l (g + 1) 0 (len + ys.length), upd S l (.arr false (g + 1) sz e (xs.take len ++ ys)), 2⟩
       else none) else none
    | _ => none
   | _ => none
  else none
 | _, _ => none

/-- A string's bytes behind a row. -/
def appendS (P : Program) (om : FuncId → List Nat) (L : Nat) (d : Option Tmp) (S : Store) (t u : TypeId) (x : T) (b : ByteArray) : Option Res :=
 match P.underlying u, elemT P t with
 | some .string, some (_, 1) => appendT P om L d S t t x (.lst 1 (bytesT b))
 | _, _ => none

def copyT (P : Program) (S : Store) (t : TypeId) (x y : T) : Option Res :=
 match elemT P t, elemsOf S y with
 | some (_, sz), some (sy, ys, _) =>
  match x with
  | .own l g off len => match S l with
   | some (.arr ro g' sz' e xs) => if ro = false ∧ g = g' ∧ sz' = sz ∧ sz = 1 ∧ (sy = none ∨ sy = some sz) ∧ off + len ≤ xs.length then
     some ⟨.sc (.int .i64 (min ys.length len : Nat)), upd S l (.arr false g sz e (splice xs off (ys.take (min ys.length len)))), 2⟩ else none
   | _ => none
  | _ => none
 | _, _ => none

def bndO (s : Slots) (dflt : Nat) : Option Operand → Option Int
 | none => some dflt
 | some x => match ev s x with
  | some (.sc (.int _ n)) => some n
  | _ => none

def cutT (s : Slots) (lo hi mx : Option Operand) (n : Nat) (mk : Nat → Nat → T) : Option T :=
 match bndO s 0 lo, bndO s n hi, bndO s n mx with
 | some l, some h, some m => if 0 ≤ l ∧ l ≤ h ∧ h ≤ m ∧ m ≤ n ∧ (mx.isSome → hi.isSome) then some (mk l.toNat h.toNat) else none
 | _, _, _ => none

def sliceT (P : Program) (s : Slots) (S : Store) (t : TypeId) (x : T) (lo hi mx : Option Operand) : Option T :=
 match elemT P t with
 | some (_, sz) =>
  match x with
  | .lst sz' xs => if sz = sz' then cutT s lo hi mx xs.length (fun l h => .lst sz ((xs.take h).drop l)) else none
  | .own lc g off len => match S lc with
   | some (.arr _ g' sz' _ _) => if g = g' ∧ sz = sz' then cutT s lo hi mx len (fun l h => .own lc g (off + l) (h - l)) else none
   | _ => none
  | _ => none
 | none => none

def placesT (P : Program) (t : TypeId) : Option (List (Nat × Nat)) :=
 match P.underlying t with
 | some (.struct fs) => fs.toList.mapM fun f => (P.info? f.type).map fun i => (f.offset, i.size)
 | _ => none

def zeroCellsT (P : Program) (t : TypeId) : Option (List T) :=
 match P.info? t with
 | some i => match i.zero with
  | some z => if z.cells.toList.all isSc then some (z.cells.toList.map .sc) else none
  | none => none
 | none => none

def fillT (ps : List (Nat × Nat)) (s : Slots) : List T → List (Nat × Operand) → Option (List T)
 | cs, [] => some cs
 | cs, (i, x) :: r => match ps[i]?, ev s x with
  | some (off, n), some t => if t.cells.length = n ∧ off + n ≤ cs.length ∧ t.cells.all one = true then fillT ps s (splice cs off t.cells) r else none
  | _, _ => none

def buildT (P : Program) (s : Slots) (t : TypeId) (parts : List (Nat × Operand)) : Option T :=
 match placesT P t, zeroCellsT P t with
 | some ps, some z => (fillT ps s z parts).map .agg
 | _, _ => none

def buildSliceT (P : Program) (L : Nat) (d : Option Tmp) (s : Slots) (S : Store) (t : TypeId) (len : Nat) (parts : List (Nat × Operand)) : Option Res :=
 if parts.map (·.1) = List.range len ∧ len ≤ 4096 then
  match elemT P t, evL s (parts.map (·.2)) with
  | some (e, sz), some ts => match freezeL S ts with
   | some (us, S1) => if (us.all fun u => decide (u.cells.length = sz)) && (zeroT P e).isSome && decide (sz ≤ 1000) then newArr L d sz e us S1 (if ts.all closed then 1 else 2) else none
   | none => none
  | _, _ => none
 else none

mutual
/-- The places of level n, each once, as they come up. -/
def locsOf (n : Nat) : T → List Loc
 | .own l _ _ _ | .ptr l _ | .aptr l _ _ _ => if l.1 = n then [l] else []
 | .clo _ cs | .agg cs | .tup cs => locsOfL n cs
 | _ => []
def locsOfL (n : Nat) : List T → List Loc
 | [] => []
 | x :: xs => locsOf n x ++ locsOfL n xs
end

def dedup : List Loc → List Loc
 | [] => []
 | x :: xs => x :: (dedup xs).filter (· != x)

def posOf (ls : List Loc) (l : Loc) : Option Nat := ls.findIdx? (· == l)

mutual
/-- Places get other names; what is stale, or has none, becomes unknown. -/
def rename (S : Store) (f : Loc → Option Loc) (z : Loc → Bool) : T → T
 | .own l g off len => match f l with
  | some m => if z l then (match S l with
    | some (.arr _ g' _ _ _) => if g = g' then .own m 0 off len else .undef
    | _ => .undef) else .own m g off len
  | none => .undef
 | .ptr l off => match f l with
  | some m => .ptr m off
  | none => .undef
 | .aptr l g i off => match f l with
  | some m => if z l then (match S l with
    | some (.arr _ g' _ _ _) => if g = g' then .aptr m 0 i off else .undef
    | _ => .undef) else .aptr m g i off
  | none => .undef
 | .clo h cs => .clo h (renameL S f z cs)
 | .agg cs => .agg (renameL S f z cs)
 | .tup cs => .tup (renameL S f z cs)
 | t => t
def renameL (S : Store) (f : Loc → Option Loc) (z : Loc → Bool) : List T → List T
 | [] => []
 | x :: xs => rename S f z x :: renameL S f z xs
end

def renObj (S : Store) (f : Loc → Option Loc) (z : Loc → Bool) : Obj → Obj
 | .box bt cs => .box bt (renameL S f z cs)
 | .arr ro _ sz e xs => .arr ro 0 sz e xs
 | .gone => .gone

/-- The head of a round: kept are the slots lv and the places (L, n), n in kl; marks begin anew. -/
def maskF (L : Nat) (kl : List Nat) : Loc → Option Loc := fun l => if l.1 = L then (if kl.contains l.2 then some l else none) else some l

def maskS (L : Nat) (kl : List Nat) (S : Store) : Store := fun l =>
 if l.1 = L then (if kl.contains l.2 then (S l).map (renObj S (maskF L kl) (fun m => m.1 == L)) else none) else S l

def maskL (L : Nat) (kl lv : List Nat) (s : Slots) (S : Store) : Slots :=
 lv.map fun d => (d, rename S (maskF L kl) (fun m => m.1 == L) (get s d))

/-- A result's places are named anew, one by one; of level n nothing else stays. -/
def packF (n : Nat) (ls : List Loc) (m : Nat) (k : Nat) : Loc → Option Loc := fun l => if l.1 = n then (posOf ls l).map fun j => (m, k + j) else some l

/-- Which place stands behind the name (m, k + j). -/
def srcOf (ls : List Loc) (m k : Nat) (l : Loc) : Option Loc := if l.1 = m ∧ k ≤ l.2 then ls[l.2 - k]? else none

/-- Places of S1 beside S, by their new names. -/
def addS (n : Nat) (ls : List Loc) (m k : Nat) (S1 S : Store) : Store := fun l =>
 match srcOf ls m k l with
 | some q => (S1 q).map (renObj S1 (packF n ls m k) (fun p => p.1 == n))
 | none => S l

/-- May the places be taken along? Boxes of level n may hold no place of level n. -/
def packOk (n : Nat) (ls : List Loc) (S : Store) : Bool :=
 ls.all fun q => match S q with
  | some (.box bt cs) => lvleL (n - 1) cs
  | some (.arr ..) => true
  | _ => false

def pack (n : Nat) (r : T) (S : Store) : Option (T × Store) :=
 if packOk n (dedup (locsOf n r)) S && lvle n r then
  some (rename S (packF n (dedup (locsOf n r)) n 0) (fun p => p.1 == n) r, addS n (dedup (locsOf n r)) n 0 S (trunc (n - 1) S)) else none

/-- A result's lists become shared ones. -/
def snapR (S : Store) : T → Option (T × List Loc)
 | .tup cs => match snapL S cs with
  | some (ds, ls) => some (.tup ds, ls)
  | none => none
 | t => snap S t

def hand (z : Bool) (n : Nat) (r : T) (S : Store) : Option (T × Store) :=
 bif z then (match snapR S r with
  | some (u, ls) => pack n u (setRo S ls)
  | none => none) else pack n r S

abbrev CallF := Nat → FuncId → List T → Store → Option (T × Store)

def snapArgs (om : List Nat) (S : Store) : Nat → List T → Option (List T × List Loc)
 | _, [] => some ([], [])
 | j, x :: xs => match (if om.contains j then some (x, []) else snap S x), snapArgs om S (j + 1) xs with
  | some (y, l), some (ys, ls) => some (y :: ys, l ++ ls)
  | _, _ => none

def arrLst (S : Store) (ls : List Loc) : Bool := ls.any fun q => match S q with
 | some (.arr ro _ _ _ xs) => ro || hasLstL xs
 | some (.box bt cs) => hasLstL cs
 | _ => false

/-- The caller takes a result in: places of level n, which lie in S1, become its own, named by the slot, beside S. -/
def takeIn (n L : Nat) (d : Option Tmp) (r : T) (S1 S : Store) : Option (T × Store) :=
 match dedup (locsOf n r), d with
 | [], _ => if lvle n r then some (r, S) else none
 | _, some d =>
  if packOk n (dedup (locsOf n r)) S1 && lvle n r && decide ((dedup (locsOf n r)).length ≤ 1000) && (List.range (dedup (locsOf n r)).length).all (fun j => (S (L, 1000 * (d + 1) + j)).isNone) then
   some (rename S1 (packF n (dedup (locsOf n r)) L (1000 * (d + 1))) (fun p => p.1 == n) r, addS n (dedup (locsOf n r)) L (1000 * (d + 1)) S1 S)
  else none
 | _, none => none

def keepS (ls : List Loc) (r : T) (S1 S : Store) : Store := bif !ls.isEmpty && (hasLst r || arrLst S1 (dedup (locsOf 1 r))) then setRo S ls else S

/-- S1 at the levels up to L, S above. -/
def lay (L : Nat) (S1 S : Store) : Store := fun l => bif Nat.ble l.1 L then S1 l else S l

/-- A call that has nothing to do with the caller's own level. -/
def lowC (L : Nat) (om : List Nat) (as : List T) : Bool := om.contains 1000 && Nat.blt 0 L && lvleL (L - 1) as

/-- A call of a known function. Plain arguments: the callee begins with an empty store, at level 1. Else it sees the caller's. -/
def goT (call : CallF) (om : FuncId → List Nat) (L : Nat) (d : Option Tmp) (S : Store) (g : FuncId) (args caps : List T) : Option Res :=
 match snapArgs (om g) S 0 args with
 | some (as, ls) =>
  if closedL as && caps.isEmpty then
   match call 0 g as emp with
   | some (r, S1) => (takeIn 1 L d r S1 (keepS ls r S1 S)).map fun p => ⟨p.1, p.2, 1⟩
   | none => none
  else if lowC L (om g) (as ++ caps) then
   match call (L - 1) g (as ++ caps) (trunc (L - 1) (setRo S ls)) with
   | some (r, S1) => if lvle (L - 1) r then some ⟨r, lay (L - 1) S1 (setRo S ls), 2⟩ else none
   | none => none
  else
   match call L g (as ++ caps) (setRo S ls) with
   | some (r, S1) => (takeIn (L + 1) L d r S1 (trunc L S1)).map fun p => ⟨p.1, p.2, 2⟩
   | none => none
 | none => none

def callT (call : CallF) (om : FuncId → List Nat) (L : Nat) (d : Option Tmp) (S : Store) (f : T) (args : List T) : Option Res :=
 match f with
 | .sc (.func (.func g) _ _) => goT call om L d S g args []
 | .clo g caps => goT call om L d S g args caps
 | _ => none

def evalOp (P : Program) (call : CallF) (om : FuncId → List Nat) (L : Nat) (o : Oper) (s : Slots) (S : Store) : Option Res :=
 match ruleA P o s with
 | some t => some ⟨t, S, 0⟩
 | none => match o.op with
  | .move x | .assign x => (ev s x).map fun t => ⟨t, S, 0⟩
  | .pick c a b => match ev s c, ev s a, ev s b with
   | some (.sc (.bool q)), some x, some y => some ⟨(bif q then x else y), S, 0⟩
   | _, _, _ => none
  | .binOp op t x y _ => match ev s x, ev s y with
   | some a, some b => (peqT P op t a b).map fun r => ⟨.sc (.bool r), S, 0⟩
   | _, _ => none
  | .alloc e => match zeroCellsT P e with
   | some z => newBox L o.dst e z S
   | none => none
  | .box e x => match ev s x with
   | some t => newBox L o.dst e t.cells S
   | none => none
  | .build t ps => (buildT P s t ps.toList).map fun t => ⟨t, S, 0⟩
  | .buildSlice t len ps => buildSliceT P L o.dst s S t len ps.toList
  | .load t a => match ev s a with
   | some x => loadT P S t x
   | none => none
  | .store t a v => match ev s a, ev s v with
   | some x, some y => storeT P S t x y
   | _, _ => none
  | .nilCheck x => match ev s x with
   | some (.ptr l off) => some ⟨.ptr l off, S, 0⟩
   | _ => none
  | .convert src dst x => match ev s x with
   | some t => convT P S src dst t
   | none => none
  | .makeFunc (.func f) first caps => if first.size = 0 then (evL s caps.toList).map fun cs => ⟨.clo f cs, S, 0⟩ else none
  | .makeSlice t l c => match ev s l, ev s c with
   | some x, some y => makeT P L o.dst S t x y
   | _, _ => none
  | .slice t x lo hi mx => match ev s x with
   | some y => (sliceT P s S t y lo hi mx).map fun t => ⟨t, S, 0⟩
   | none => none
  | .fieldAddr t x f => match ev s x with
   | some y => (fieldAddrT P t f y).map fun t => ⟨t, S, 0⟩
   | none => none
  | .field t x f => match fieldT P t f, ev s x with
   | some (off, n, ft), some (.agg cs) => match isAggT P ft with
    | some ag => (readAt ag n cs off).map fun t => ⟨t, S, 0⟩
    | none => none
   | _, _ => none
  | .indexAddr t x i => match ev s x, ev s i with
   | some y, some j => (indexAddrT P S t y j).map fun t => ⟨t, S, 0⟩
   | _, _ => none
  | .extract x j => match ev s x with
   | some (.tup ts) => (ts[j]?).map fun t => ⟨t, S, 0⟩
   | _ => none
  | .call c => match c.callee, evL s c.args.toList with
   | .builtin .len, some [.lst _ xs] => match c.argTypes.toList with
    | [t] => (elemT P t).map fun _ => ⟨.sc (.int .i64 xs.length), S, 0⟩
    | _ => none
   | .builtin .len, some [.own _ _ _ len] => match c.argTypes.toList with
    | [t] => (elemT P t).map fun _ => ⟨.sc (.int .i64 len), S, 0⟩
    | _ => none
   | .builtin .append, some [x, .sc (.string b)] => match c.argTypes.toList with
    | [t, u] => appendS P om L o.dst S t u x b
    | _ => none
   | .builtin .unsafeSliceData, some [x] => (usdT S x).map fun t => ⟨t, S, 1⟩
   | .builtin .unsafeString, some [x, y] => match c.argTypes.toList with
    | [pt, _] => (ustrT P S pt x y).map fun p => ⟨p.1, p.2, 2⟩
    | _ => none
   | .builtin .append, some [x, y] => match c.argTypes.toList with
    | [t, u] => appendT P om L o.dst S t u x y
    | _ => none
   | .builtin .copy, some [x, y] => match c.argTypes.toList with
    | [t, _] => copyT P S t x y
    | _ => none
   | .value f, some args => match ev s f with
    | some t => bif isNoEscO P f then (match args with
      | [.ptr l off] => some ⟨.ptr l off, S, 0⟩
      | _ => none) else callT call om L o.dst S t args
    | none => none
   | _, _ => none
  | _ => none

structure St where
 s : Slots
 S : Store

/-- What is done at the head of a round: which places stay, which slots, and whose lists become shared ones. -/
structure Head where
 kl : List Nat
 lv : List Nat
 sn : List Nat
 fu : Bool

def snapAll (S : Store) : List Nat → Slots → Slots × List Loc
 | [], s => (s, [])
 | d :: r, s => match snap S (get s d) with
  | some (u, ls) => ((d, u) :: (snapAll S r s).1, ls ++ (snapAll S r s).2)
  | none => snapAll S r s

def headOf (L : Nat) (a : Head) (q : Slots × List Loc) (S : Store) : St := ⟨maskL L a.kl a.lv q.1 (setRo S q.2), maskS L a.kl (setRo S q.2)⟩

/-- A box's lists become shared ones (numbers from 10000000 on stand for boxes). -/
def boxOne (L : Nat) (S : Store) (d : Nat) : Store :=
 if d < 10000000 then S else match S (L, d - 10000000) with
  | some (.box bt cs) => match snapL S cs with
   | some (us, ls) => upd (setRo S ls) (L, d - 10000000) (.box bt us)
   | none => S
  | _ => S
def boxAll (L : Nat) : List Nat → Store → Store
 | [], S => S
 | d :: r, S => boxAll L r (boxOne L S d)

def headSt (L : Nat) (a : Head) (st : St) : St := headOf L a (snapAll (boxAll L a.sn st.S) a.sn st.s) (boxAll L a.sn st.S)

/-- Only these slots. -/
def keepL (lv : List Nat) (s : Slots) : Slots := lv.map fun d => (d, get s d)

/-- What stays where a piece of code is left. -/
def leaveSt (L : Nat) (a : Head) (st : St) : St := bif a.fu then headSt L a st else ⟨keepL a.lv st.s, st.S⟩

inductive Ex where
 | nrm
 | exit (id : Nat)
 | ret

def putT (n : Nat) (s : Slots) (d : Option Tmp) (t : T) : Option Slots :=
 match d with
 | some d => if d < n then some ((d, t) :: s) else none
 | none => some s

def want (all : Array Oper) (s : Slots) (o : Oper) : Option Bool :=
 match o.guard with
 | none => some true
 | some (j, w) => match ((all[j]?).bind (·.dst)).map (get s) with
  | some (.sc (.bool b)) => some (b == w)
  | some (.tup []) => some false
  | _ => none

def stepOp (P : Program) (call : CallF) (om : FuncId → List Nat) (L n : Nat) (all : Array Oper) (i : Nat) (st : St) : Option St :=
 match all[i]? with
 | some o => match want all st.s o with
  | some true => match evalOp P call om L o st.s st.S with
   | some re => (putT n st.s o.dst re.t).map fun s => ⟨s, re.S⟩
   | none => none
  | some false => (putT n st.s o.dst (.tup [])).map fun s => ⟨s, st.S⟩
  | none => none
 | none => none

def evalOps (P : Program) (call : CallF) (om : FuncId → List Nat) (L n : Nat) (all : Array Oper) : List Nat → St → Option St
 | [], st => some st
 | i :: r, st => match stepOp P call om L n all i st with
  | some st' => evalOps P call om L n all r st'
  | none => none

/-- Operations that neither look at the memory nor touch it. -/
def calm : Op → Bool
 | .move .. | .assign .. | .pick .. | .build .. | .nilCheck .. | .makeFunc .. | .slice .. | .fieldAddr .. | .field .. | .indexAddr .. | .extract .. | .binOp .. | .unOp .. => true
 | .call { callee := .builtin .len, .. } | .call { callee := .builtin .min, .. } | .call { callee := .builtin .max, .. } => true
 | _ => false

def stEq (x y : St) : Prop := x.S = y.S ∧ ∀ d, get x.s d = get y.s d

/-- Every order that may be drawn ends in the same state. -/
def anyOk (P : Program) (call : CallF) (om : FuncId → List Nat) (L n : Nat) (md : Region.Mode) (ops : Array Oper) (fin : St) : Nat → Array Bool → St → Prop
 | 0, listed, st => Region.ready md ops listed = [] ∧ stEq st fin
 | k + 1, listed, st => (Region.ready md ops listed = [] ∧ stEq st fin) ∨
   (∃ i o st', i ∈ Region.ready md ops listed ∧ ops[i]? = some o ∧ calm o.op = true ∧ Region.free md ops listed i = true ∧ stepOp P call om L n ops i st = some st' ∧
    anyOk P call om L n md ops fin k (listed.setIfInBounds i true) st') ∨
   (Region.ready md ops listed ≠ [] ∧ ∀ i ∈ Region.ready md ops listed, ∃ st', stepOp P call om L n ops i st = some st' ∧ anyOk P call om L n md ops fin k (listed.setIfInBounds i true) st')

def drawOk (P : Program) (call : CallF) (om : FuncId → List Nat) (L n : Nat) (ops : Array Oper) (st fin : St) : Prop :=
 Region.noSelect ops = true ∧ ∀ md, anyOk P call om L n md ops fin ops.size (Array.replicate ops.size false) st

def firstRegion : Code → Nat
 | .region id _ _ => id
 | .seq a _ => firstRegion a
 | .block _ c => firstRegion c
 | .scope c => firstRegion c
 | .loop c => firstRegion c
 | _ => 0

def iter (f : St → Option (Ex × St)) : Nat → St → Option (Ex × St)
 | 0, _ => none
 | n + 1, st => match f st with
  | some (.nrm, st') => iter f n st'
  | r => r

open Classical in
/-- What a row of ever better answers comes to. -/
noncomputable def lim {α : Type} (f : Nat → Option α) : Option α := if h : ∃ x k, f k = some x then some h.choose else none

open Classical in
noncomputable def evalC (P : Program) (call : CallF) (om : FuncId → List Nat) (an : Nat → Head) (L n : Nat) : Code → St → Option (Ex × St)
 | .skip, st | .label _, st => some (.nrm, st)
 | .region _ ops false, st => (evalOps P call om L n ops (List.range ops.size) st).map fun st' => (.nrm, st')
 | .region _ ops true, st => match evalOps P call om L n ops (List.range ops.size) st with
  | some st' => if drawOk P call om L n ops st st' then some (.nrm, st') else none
  | none => none
 | .seq a b, st => match evalC P call om an L n a st with
  | some (.nrm, st') => evalC P call om an L n b st'
  | r => r
 | .cond c x y, st => match ev st.s c with
  | some (.sc (.bool q)) => bif q then evalC P call om an L n x st else evalC P call om an L n y st
  | _ => none
 | .block id c, st => match evalC P call om an L n c st with
  | some (.exit i, st') => if i = id then some (.nrm, st') else some (.exit i, st')
  | r => r
 | .loop c, st => lim fun k => iter (fun st => evalC P call om an L n c (headSt L (an (3 * firstRegion c)) st)) k st
 | .scope c, st => evalC P call om an L n c st
 | .exit id, st => some (.exit id, leaveSt L (an (3 * id + 1)) st)
 | .ret, st => some (.ret, leaveSt L (an 3000002) st)
 | _, _ => none

def resT (P : Program) (s : Slots) (S : Store) : List ResultVar → Option (List T)
 | [] => some []
 | .tmp t :: r => (resT P s S r).map (get s t :: ·)
 | .cell a t :: r => match loadT P S t (get s a), resT P s S r with
  | some x, some l => some (x.t :: l)
  | _, _ => none

def oneT : List T → T
 | [t] => t
 | ts => .tup ts

structure Env where
 P : Program
 om : FuncId → List Nat
 an : FuncId → Nat → Head
 X : FuncId → Option (List T → Option T)

/-- One call, by what the inner calls come to. -/
noncomputable def fnStep (E : Env) (call : CallF) : CallF := fun L f args S =>
 match E.X f with
 | some g => (g args).bind fun r => if closed r && !hasLst r && closedL args then some (r, S) else none
 | none => match E.P.funcs[f]? with
  | some fn => match fn.body with
   | some c =>
    if args.length ≤ fn.ntmps then
     match evalC E.P call E.om (E.an f) (L + 1) fn.ntmps c ⟨(List.range args.length).zip args, S⟩ with
     | some (.exit _, _) | none => none
     | some (_, st) => match resT E.P st.s st.S fn.results.toList with
      | some ts => hand (E.an f 3000005).fu (L + 1) (oneT ts) st.S
      | none => none
    else none
   | none => none
  | none => none

/-- The call of function f out of level L. -/
noncomputable def evalFn (E : Env) : Nat → CallF
 | 0 => fun _ _ _ _ => none
 | k + 1 => fnStep E (evalFn E k)

/-- What a call comes to. -/
noncomputable def callF (E : Env) : CallF := fun L f args S => lim fun k => evalFn E k L f args S

end Go.TM
