/- An evaluator of loaded code over trees: slices are lists, variables and own arrays lie in a small store. Definitions only. -/
import Derived.Calls
import Derived.Scope
import Derived.Orders
import Derived.Laws.OwnMore
import Derived.Below
import Derived.OwnWalk
import Derived.Laws.Sem
import Derived.Laws.Rows
import Derived.Laws.CopyRow
import Derived.Laws.MakeOwn
import Derived.Laws.Tables
set_option linter.all false
namespace Go.TM
open Go
abbrev Loc := Nat × Nat
inductive T where
 | undef
 | sc (v : Value)
 | lst (sz : Nat) (xs : List T)
 | own (l : Loc) (g off len : Nat)
 | ptr (l : Loc) (off : Nat)
 | lptr (sz : Nat) (xs : List T) (i off : Nat)
 | aptr (l : Loc) (g i off : Nat)
 | clo (f : FuncId) (caps : List T)
 | agg (cs : List T)
 | tup (cs : List T)
 deriving Inhabited
inductive Obj where
 | box (bt : TypeId) (cs : List T)
 | arr (ro : Bool) (g sz : Nat) (e : TypeId) (xs : List T)
 | gone
 deriving Inhabited
abbrev Store := Loc → Option Obj
abbrev Slots := List (Nat × T)
def emp : Store := fun _ => none
def upd (S : Store) (l : Loc) (o : Obj) : Store := fun m => if m = l then some o else S m
def trunc (L : Nat) (S : Store) : Store := fun m => if m.1 ≤ L then S m else none
def T.cells : T → List T
 | .agg cs => cs
 | t => [t]
def isSc : Value → Bool
 | .bool _ | .int _ _ | .string _ | .pointer none | .nilFunc | .nilIface => true
 | .slice none n c => n == 0 && c == 0
 | .func (.func _) a b => a.size == 0 && b.size == 0
 | _ => false
def one : T → Bool
 | .agg _ | .tup _ | .undef => false
 | _ => true
mutual
def closed : T → Bool
 | .sc v => isSc v
 | .lst _ xs => closedL xs
 | .agg cs => closedL cs && cs.all one
 | _ => false
def closedL : List T → Bool
 | [] => true
 | x :: xs => closed x && closedL xs
end
mutual
def lvle (n : Nat) : T → Bool
 | .own l _ _ _ | .ptr l _ | .aptr l _ _ _ => l.1 ≤ n
 | .clo _ cs | .agg cs | .tup cs => lvleL n cs
 | _ => true
def lvleL (n : Nat) : List T → Bool
 | [] => true
 | x :: xs => lvle n x && lvleL n xs
end
mutual
def hasLst : T → Bool
 | .lst .. => true
 | .lptr .. => true
 | .clo _ cs | .agg cs | .tup cs => hasLstL cs
 | _ => false
def hasLstL : List T → Bool
 | [] => false
 | x :: xs => hasLst x || hasLstL xs
end
def get (s : Slots) (d : Nat) : T := (s.lookup d).getD .undef
def evV (v : Value) : Option T := if isSc v then some (.sc v) else none
def ev (s : Slots) : Operand → Option T
 | .tmp t => some (get s t)
 | .const v => evV v
 | .func f => some (.sc (.func (.func f) #[] #[]))
 | .global _ => none
def evL (s : Slots) : List Operand → Option (List T)
 | [] => some []
 | x :: xs => match ev s x, evL s xs with
  | some a, some l => some (a :: l)
  | _, _ => none
def pureRun {α : Type} (P : Program) : Sem α → Option α
 | .pure a => some a
 | .program k => pureRun P (k P)
 | .mark _ k => pureRun P k
 | _ => none
def scV (s : Slots) (x : Operand) : Value :=
 match ev s x with
 | some (.sc v) => v
 | _ => undef
def isScO (s : Slots) (x : Operand) : Bool :=
 match ev s x with
 | some (.sc _) => true
 | _ => false
def plainOp : Op → Bool
 | .binOp .. | .unOp .. | .convert .. | .index .. | .slice .. => true
 | .call { callee := .builtin .len, .. } | .call { callee := .builtin .min, .. } | .call { callee := .builtin .max, .. } | .call { callee := .builtin .cap, .. } => true
 | _ => false
def ruleA (P : Program) (o : Oper) (s : Slots) : Option T :=
 if plainOp o.op && o.op.operands.all (isScO s) then
  match pureRun P (execOp (scV s) o) with
  | some (.value v) => if isSc v then some (.sc v) else none
  | _ => none
 else none
def szOf (P : Program) (t : TypeId) : Option Nat := (P.info? t).map (·.size)
def isAggT (P : Program) (t : TypeId) : Option Bool :=
 match P.underlying t with
 | some (.struct _) | some (.array _ _) => some true
 | some _ => some false
 | none => none
def readAt (agg : Bool) (n : Nat) (cs : List T) (off : Nat) : Option T :=
 if agg then (if ((cs.drop off).take n).length = n then some (.agg ((cs.drop off).take n)) else none) else cs[off]?
def splice (cs : List T) (off : Nat) (ys : List T) : List T := cs.take off ++ ys ++ cs.drop (off + ys.length)
mutual
def snap (S : Store) : T → Option (T × List Loc)
 | .own l g off len => match S l with
  | some (.arr _ g' sz _ xs) => if g = g' ∧ off + len ≤ xs.length then some (.lst sz ((xs.drop off).take len), [l]) else none
  | _ => none
 | .agg cs => match snapL S cs with
  | some (ds, ls) => some (.agg ds, ls)
  | none => none
 | t => some (t, [])
def snapL (S : Store) : List T → Option (List T × List Loc)
 | [] => some ([], [])
 | x :: xs => match snap S x, snapL S xs with
  | some (y, l), some (ys, ls) => some (y :: ys, l ++ ls)
  | _, _ => none
end
def setRo (S : Store) (ls : List Loc) : Store := fun m =>
 match S m with
 | some (.arr ro g sz e xs) => some (.arr (ro || ls.contains m) g sz e xs)
 | o => o
def freeze (S : Store) (t : T) : Option (T × Store) :=
 match snap S t with
 | some (u, ls) => if closed u then some (u, setRo S ls) else none
 | none => none
def freezeL (S : Store) : List T → Option (List T × Store)
 | [] => some ([], S)
 | x :: xs => match freeze S x with
  | some (y, S1) => match freezeL S1 xs with
   | some (ys, S2) => some (y :: ys, S2)
   | none => none
  | none => none
structure Res where
 t : T
 S : Store
 eff : Nat
def newBox (L : Nat) (d : Option Tmp) (bt : TypeId) (cs : List T) (S : Store) : Option Res :=
 match d with
 | some d => if (S (L, d)).isNone && lvleL L cs && cs.all one then some ⟨.ptr (L, d) 0, upd S (L, d) (.box bt cs), 1⟩ else none
 | none => none
def newArr (L : Nat) (d : Option Tmp) (sz : Nat) (e : TypeId) (xs : List T) (S : Store) (eff : Nat) : Option Res :=
 match d with
 | some d => if (S (L, d)).isNone then some ⟨.own (L, d) 0 0 xs.length, upd S (L, d) (.arr false 0 sz e xs), eff⟩ else none
 | none => none
def loadT (P : Program) (S : Store) (t : TypeId) (a : T) : Option Res :=
 match isAggT P t, szOf P t with
 | some ag, some n => match a with
  | .ptr l off => match S l with
   | some (.box bt cs) => (readAt ag n cs off).map fun x => ⟨x, S, 1⟩
   | _ => none
  | .lptr _ xs i off => match xs[i]? with
   | some x => (readAt ag n x.cells off).map fun x => ⟨x, S, 0⟩
   | none => none
  | .aptr l g i off => match S l with
   | some (.arr _ g' _ _ xs) => if g = g' then match xs[i]? with
     | some x => (readAt ag n x.cells off).map fun x => ⟨x, S, 1⟩
     | none => none
    else none
   | _ => none
  | _ => none
 | _, _ => none
def storeT (P : Program) (S : Store) (t : TypeId) (a v : T) : Option Res :=
 match szOf P t with
 | some n => if v.cells.length = n then match a with
  | .ptr l off => match S l with
   | some (.box bt cs) => if off + n ≤ cs.length ∧ lvle l.1 v = true ∧ v.cells.all one = true then some ⟨.tup [], upd S l (.box bt (splice cs off v.cells)), 2⟩ else none
   | _ => none
  | .aptr l g i off => match freeze S v with
   | some (u, S1) => match S1 l with
    | some (.arr ro g' sz e xs) => if g = g' ∧ ro = false ∧ i < xs.length ∧ off = 0 ∧ n = sz ∧ u.cells.length = sz then
      some ⟨.tup [], upd S1 l (.arr false g' sz e (xs.set i u)), 2⟩
     else none
    | _ => none
   | none => none
  | _ => none
  else none
 | none => none
def fieldT (P : Program) (s : TypeId) (f : Nat) : Option (Nat × Nat × TypeId) :=
 match P.underlying s with
 | some (.struct fs) => match fs[f]? with
  | some fd => match szOf P fd.type with
   | some n => some (fd.offset, n, fd.type)
   | none => none
  | none => none
 | _ => none
def fieldAddrT (P : Program) (s : TypeId) (f : Nat) (a : T) : Option T :=
 match fieldT P s f with
 | some (o, n, _) => if n = 0 then none else match a with
  | .ptr l off => some (.ptr l (off + o))
  | .lptr sz xs i off => some (.lptr sz xs i (off + o))
  | .aptr l g i off => some (.aptr l g i (off + o))
  | _ => none
 | none => none
def idxOk (i : Int) (n : Nat) : Bool := decide (0 ≤ i) && decide (i < n)
def elemT (P : Program) (t : TypeId) : Option (TypeId × Nat) :=
 match P.underlying t with
 | some (.slice e) => (szOf P e).map fun n => (e, n)
 | _ => none
def indexAddrT (P : Program) (S : Store) (t : TypeId) (x i : T) : Option T :=
 match i with
 | .sc (.int _ n) => match P.underlying t with
  | some (.slice e) => match szOf P e, x with
   | some sz, .lst sz' xs => if sz = sz' then (bif idxOk n xs.length then some (.lptr sz xs n.toNat 0) else none) else none
   | some sz, .own l g off len => match S l with
    | some (.arr _ g' sz' _ xs) => if g = g' ∧ sz = sz' ∧ off + len ≤ xs.length then (bif idxOk n len then some (.aptr l g (off + n.toNat) 0) else none) else none
    | _ => none
   | _, _ => none
  | some (.array len e) => match szOf P e, x with
   | some sz, .ptr l off => bif idxOk n len then some (.ptr l (off + n.toNat * sz)) else none
   | _, _ => none
  | _ => none
 | _ => none
def bytesT (s : ByteArray) : List T := s.data.toList.map fun b => .sc (.int .u8 b.toNat)
def bytesV : List T → Option (List UInt8)
 | [] => some []
 | .sc (.int .u8 n) :: r => (bytesV r).map (UInt8.ofNat n.toNat :: ·)
 | _ => none
def elemsOf (S : Store) : T → Option (Option Nat × List T × Nat)
 | .lst sz xs => some (some sz, xs, 0)
 | .own l g off len => match S l with
  | some (.arr _ g' sz _ xs) => if g = g' ∧ off + len ≤ xs.length then some (some sz, (xs.drop off).take len, 1) else none
  | _ => none
 | .sc (.slice none _ _) => some (none, [], 0)
 | _ => none
def ptrEq : T → T → Option Bool
 | .ptr l o, .ptr l' o' => if l = l' ∧ o = o' then some true else none
 | .ptr _ _, .sc (.pointer none) => some false
 | .sc (.pointer none), .ptr _ _ => some false
 | .aptr _ _ _ _, .sc (.pointer none) => some false
 | .lptr _ _ _ _, .sc (.pointer none) => some false
 | _, _ => none
def peqT (P : Program) (op : BinOp) (t : TypeId) (x y : T) : Option Bool :=
 match P.underlying t with
 | some (.pointer e) => if (P.info? e).isSome then (match op with
   | .eql => ptrEq x y
   | .neq => (ptrEq x y).map (!·)
   | _ => none) else none
 | _ => none
def isNoEsc (P : Program) : T → Bool
 | .sc (.func (.func g) _ _) => match P.funcs[g]? with
  | some fn => fn.body.isNone && fn.name == "internal/abi.NoEscape" && (Extern.allNextRows.lookup fn.name).isNone && (Extern.allNextRows.lookup fn.origin).isNone
  | none => false
 | _ => false
def isNoEscO (P : Program) : Operand → Bool
 | .func g => isNoEsc P (.sc (.func (.func g) #[] #[]))
 | _ => false
def isByte : T → Bool
 | .sc (.int .u8 n) => decide (0 ≤ n) && decide (n < 256)
 | _ => false
def usdT (S : Store) : T → Option T
 | .own l g off len => match S l with
  | some (.arr _ g' _ _ _) => if g = g' ∧ 0 < len then some (.aptr l g off 0) else none
  | _ => none
 | .sc (.slice none _ _) => some (.sc (.pointer none))
 | _ => none
def ustrT (P : Program) (S : Store) (pt : TypeId) (p n : T) : Option (T × Store) :=
 match p, n with
 | .sc (.pointer none), .sc (.int .i64 n) => if n = 0 then some (.sc (.string .empty), S) else none
 | .aptr l g i off, .sc (.int .i64 n) => match P.underlying pt, S l with
  | some (.pointer e), some (.arr ro g' sz e' xs) => if g = g' ∧ ro = false ∧ i = 0 ∧ off = 0 ∧ sz = 1 ∧ e' = e ∧ P.cellsOf e = 1 ∧ 0 < n ∧ n.toNat ≤ xs.length ∧ n ≤ 9223372036854775807 ∧ (xs.take n.toNat).all isByte = true then
    (bytesV (xs.take n.toNat)).map fun bs => (.sc (.string ⟨bs.toArray⟩), setRo S [l]) else none
  | _, _ => none
 | _, _ => none
def convT (P : Program) (S : Store) (src dst : TypeId) (x : T) : Option Res :=
 match P.underlying src, P.underlying dst, x with
 | some .string, some (.slice e), .sc (.string s) =>
  match P.underlying e with
  | some (.int .u8) => if szOf P e = some 1 then some ⟨.lst 1 (bytesT s), S, 1⟩ else none
  | _ => none
 | some (.slice e), some .string, x =>
  match P.underlying e, elemsOf S x with
  | some (.int .u8), some (some 1, xs, f) => (bytesV xs).map fun bs => ⟨.sc (.string ⟨bs.toArray⟩), S, f⟩
  | _, _ => none
 | some (.pointer t), some .unsafePointer, .ptr l off =>
  match S l, szOf P t with
  | some (.box _ cs), some n => if n ≠ 0 ∧ off < cs.length then some ⟨.ptr l off, S, 1⟩ else none
  | _, _ => none
 | some .unsafePointer, some (.pointer u), .ptr l off =>
  match S l, szOf P u with
  | some (.box bt cs), some _ => if liesAt P P.depth bt (cs.length / P.cellsOf bt) off u 1 = true then some ⟨.ptr l off, S, 1⟩ else none
  | _, _ => none
 | _, _, _ => none
def maxRow : Nat := 1000000000
def zeroT (P : Program) (e : TypeId) : Option T :=
 match P.info? e, isAggT P e with
 | some i, some ag => match i.zero with
  | some z => if z.cells.toList.all isSc && decide (z.cells.size = i.size) && decide (0 < i.size) && decide (i.bytes ≤ 1000) then
    (if ag then some (.agg (z.cells.toList.map .sc)) else if z.cells.size = 1 then (z.cells[0]?).map .sc else none) else none
  | none => none
 | _, _ => none
def makeT (P : Program) (L : Nat) (d : Option Tmp) (S : Store) (t : TypeId) (l c : T) : Option Res :=
 match elemT P t, l, c with
 | some (e, sz), .sc (.int _ n), .sc (.int _ m) =>
  match zeroT P e with
  | some z => if 0 ≤ n ∧ n ≤ m ∧ m ≤ maxRow then newArr L d sz e (List.replicate n.toNat z) S 1 else none
  | none => none
 | _, _, _ => none
def lowP (om : FuncId → List Nat) (L : Nat) (d : Option Tmp) (e : TypeId) : Nat × Option Tmp :=
 bif (om 1000000000).contains e && decide (2 ≤ L) then (1, some 7000) else (L, d)
def appendT (P : Program) (om : FuncId → List Nat) (L : Nat) (d : Option Tmp) (S : Store) (t u : TypeId) (x y : T) : Option Res :=
 if t ≠ u then none else
 match elemT P t, elemsOf S y with
 | some (e, sz), some (sy, ys, fy) =>
  if (sy = none ∨ sy = some sz) ∧ (zeroT P e).isSome = true then
   match x with
   | .sc (.slice none _ _) => if ys.isEmpty then some ⟨x, S, fy⟩ else if ys.length ≤ maxRow then newArr (lowP om L d e).1 (lowP om L d e).2 sz e ys S 1 else none
   | .own l g off len => match S l with
    | some (.arr ro g' sz' e' xs) => if g = g' ∧ len ≤ xs.length then
      (if ys.isEmpty then some ⟨x, S, 1⟩
       else if ro = false ∧ off = 0 ∧ sz' = sz ∧ e' = e ∧ len + ys.length ≤ maxRow then
       some ⟨.own l (g + 1) 0 (len + ys.length), upd S l (.arr false (g + 1) sz e (xs.take len ++ ys)), 2⟩
       else none) else none
    | _ => none
   | _ => none
  else none
 | _, _ => none
def appendS (P : Program) (om : FuncId → List Nat) (L : Nat) (d : Option Tmp) (S : Store) (t u : TypeId) (x : T) (b : ByteArray) : Option Res :=
 match P.underlying u, elemT P t with
 | some .string, some (_, 1) => appendT P om L d S t t x (.lst 1 (bytesT b))
 | _, _ => none
def appendZ (P : Program) (L : Nat) (d : Option Tmp) (S : Store) (t u : TypeId) (x : T) (n : Int) : Option Res :=
 match P.underlying u, elemT P t with
 | some (.int _), some (e, sz) => match zeroT P e, x with
  | some z, .sc (.slice none _ _) => if 0 < n ∧ n ≤ maxRow then newArr L d sz e (List.replicate n.toNat z) S 1 else none
  | _, _ => none
 | _, _ => none
def copyT (P : Program) (S : Store) (t : TypeId) (x y : T) : Option Res :=
 match elemT P t, elemsOf S y with
 | some (_, sz), some (sy, ys, _) =>
  match x with
  | .own l g off len => match S l with
   | some (.arr ro g' sz' e xs) => if ro = false ∧ g = g' ∧ sz' = sz ∧ sz = 1 ∧ (sy = none ∨ sy = some sz) ∧ off + len ≤ xs.length then
     some ⟨.sc (.int .i64 (min ys.length len : Nat)), upd S l (.arr false g sz e (splice xs off (ys.take (min ys.length len)))), 2⟩ else none
   | _ => none
  | _ => none
 | _, _ => none
def bndO (s : Slots) (dflt : Nat) : Option Operand → Option Int
 | none => some dflt
 | some x => match ev s x with
  | some (.sc (.int _ n)) => some n
  | _ => none
def cutT (s : Slots) (lo hi mx : Option Operand) (n : Nat) (mk : Nat → Nat → T) : Option T :=
 match bndO s 0 lo, bndO s n hi, bndO s n mx with
 | some l, some h, some m => if 0 ≤ l ∧ l ≤ h ∧ h ≤ m ∧ m ≤ n ∧ (mx.isSome → hi.isSome) then some (mk l.toNat h.toNat) else none
 | _, _, _ => none
def sliceT (P : Program) (s : Slots) (S : Store) (t : TypeId) (x : T) (lo hi mx : Option Operand) : Option T :=
 match elemT P t with
 | some (_, sz) =>
  match x with
  | .lst sz' xs => if sz = sz' then cutT s lo hi mx xs.length (fun l h => .lst sz ((xs.take h).drop l)) else none
  | .own lc g off len => match S lc with
   | some (.arr _ g' sz' _ _) => if g = g' ∧ sz = sz' then cutT s lo hi mx len (fun l h => .own lc g (off + l) (h - l)) else none
   | _ => none
  | _ => none
 | none => none
def placesT (P : Program) (t : TypeId) : Option (List (Nat × Nat)) :=
 match P.underlying t with
 | some (.struct fs) => fs.toList.mapM fun f => (P.info? f.type).map fun i => (f.offset, i.size)
 | some (.array len e) => (szOf P e).map fun sz => (List.range len).map fun i => (i * sz, sz)
 | _ => none
def zeroCellsT (P : Program) (t : TypeId) : Option (List T) :=
 match P.info? t with
 | some i => match i.zero with
  | some z => if z.cells.toList.all isSc then some (z.cells.toList.map .sc) else none
  | none => none
 | none => none
def fillT (ps : List (Nat × Nat)) (s : Slots) : List T → List (Nat × Operand) → Option (List T)
 | cs, [] => some cs
 | cs, (i, x) :: r => match ps[i]?, ev s x with
  | some (off, n), some t => if t.cells.length = n ∧ off + n ≤ cs.length ∧ t.cells.all one = true then fillT ps s (splice cs off t.cells) r else none
  | _, _ => none
def buildT (P : Program) (s : Slots) (t : TypeId) (parts : List (Nat × Operand)) : Option T :=
 match placesT P t, zeroCellsT P t with
 | some ps, some z => (fillT ps s z parts).map .agg
 | _, _ => none
def bornArr (sh : Bool) (L : Nat) (d : Option Tmp) (sz : Nat) (e : TypeId) (xs : List T) (S : Store) (eff : Nat) : Option Res :=
 if sh = true then some ⟨.lst sz xs, S, 2⟩ else newArr L d sz e xs S eff
def buildSliceT (P : Program) (om : FuncId → List Nat) (L : Nat) (d : Option Tmp) (s : Slots) (S : Store) (t : TypeId) (len : Nat) (parts : List (Nat × Operand)) : Option Res :=
 if parts.map (·.1) = List.range len ∧ len ≤ 4096 then
  match elemT P t, evL s (parts.map (·.2)) with
  | some (e, sz), some ts => match freezeL S ts with
   | some (us, S1) => if (us.all fun u => decide (u.cells.length = sz)) && (zeroT P e).isSome && decide (sz ≤ 1000) then bornArr ((om 1000000002).contains (e + 1000000 * L)) L d sz e us S1 (if ts.all closed then 1 else 2) else none
   | none => none
  | _, _ => none
 else none
mutual
def locsOf (n : Nat) : T → List Loc
 | .own l _ _ _ | .ptr l _ | .aptr l _ _ _ => if l.1 = n then [l] else []
 | .clo _ cs | .agg cs | .tup cs => locsOfL n cs
 | _ => []
def locsOfL (n : Nat) : List T → List Loc
 | [] => []
 | x :: xs => locsOf n x ++ locsOfL n xs
end
def dedup : List Loc → List Loc
 | [] => []
 | x :: xs => x :: (dedup xs).filter (· != x)
def posOf (ls : List Loc) (l : Loc) : Option Nat := ls.findIdx? (· == l)
mutual
def rename (S : Store) (f : Loc → Option Loc) (z : Loc → Bool) : T → T
 | .own l g off len => match f l with
  | some m => if z l then (match S l with
    | some (.arr _ g' _ _ _) => if g = g' then .own m 0 off len else .undef
    | _ => .undef) else .own m g off len
  | none => .undef
 | .ptr l off => match f l with
  | some m => .ptr m off
  | none => .undef
 | .aptr l g i off => match f l with
  | some m => if z l then (match S l with
    | some (.arr _ g' _ _ _) => if g = g' then .aptr m 0 i off else .undef
    | _ => .undef) else .aptr m g i off
  | none => .undef
 | .clo h cs => .clo h (renameL S f z cs)
 | .agg cs => .agg (renameL S f z cs)
 | .tup cs => .tup (renameL S f z cs)
 | t => t
def renameL (S : Store) (f : Loc → Option Loc) (z : Loc → Bool) : List T → List T
 | [] => []
 | x :: xs => rename S f z x :: renameL S f z xs
end
def renObj (S : Store) (f : Loc → Option Loc) (z : Loc → Bool) : Obj → Obj
 | .box bt cs => .box bt (renameL S f z cs)
 | .arr ro _ sz e xs => .arr ro 0 sz e xs
 | .gone => .gone
def maskF (L : Nat) (kl : List Nat) : Loc → Option Loc := fun l => if l.1 = L then (if kl.contains l.2 then some l else none) else some l
def maskS (L : Nat) (kl : List Nat) (S : Store) : Store := fun l =>
 if l.1 = L then (if kl.contains l.2 then (S l).map (renObj S (maskF L kl) (fun m => m.1 == L)) else none) else S l
def maskL (L : Nat) (kl lv : List Nat) (s : Slots) (S : Store) : Slots :=
 lv.map fun d => (d, rename S (maskF L kl) (fun m => m.1 == L) (get s d))
def packF (n : Nat) (ls : List Loc) (m : Nat) (k : Nat) : Loc → Option Loc := fun l => if l.1 = n then (posOf ls l).map fun j => (m, k + j) else some l
def srcOf (ls : List Loc) (m k : Nat) (l : Loc) : Option Loc := if l.1 = m ∧ k ≤ l.2 then ls[l.2 - k]? else none
def addS (n : Nat) (ls : List Loc) (m k : Nat) (S1 S : Store) : Store := fun l =>
 match srcOf ls m k l with
 | some q => (S1 q).map (renObj S1 (packF n ls m k) (fun p => p.1 == n))
 | none => S l
def packOk (n : Nat) (ls : List Loc) (S : Store) : Bool :=
 ls.all fun q => match S q with
  | some (.box bt cs) => lvleL (n - 1) cs
  | some (.arr ..) => true
  | _ => false
def pack (n : Nat) (r : T) (S : Store) : Option (T × Store) :=
 if packOk n (dedup (locsOf n r)) S && lvle n r then
  some (rename S (packF n (dedup (locsOf n r)) n 0) (fun p => p.1 == n) r, addS n (dedup (locsOf n r)) n 0 S (trunc (n - 1) S)) else none
def snapR (S : Store) : T → Option (T × List Loc)
 | .tup cs => match snapL S cs with
  | some (ds, ls) => some (.tup ds, ls)
  | none => none
 | t => snap S t
def hand (z : Bool) (n : Nat) (r : T) (S : Store) : Option (T × Store) :=
 bif z then (match snapR S r with
  | some (u, ls) => pack n u (setRo S ls)
  | none => none) else pack n r S
abbrev CallF := Nat → FuncId → List T → Store → Option (T × Store)
def snapArgs (om : List Nat) (S : Store) : Nat → List T → Option (List T × List Loc)
 | _, [] => some ([], [])
 | j, x :: xs => match (if om.contains j then some (x, []) else snap S x), snapArgs om S (j + 1) xs with
  | some (y, l), some (ys, ls) => some (y :: ys, l ++ ls)
  | _, _ => none
def arrLst (S : Store) (ls : List Loc) : Bool := ls.any fun q => match S q with
 | some (.arr ro _ _ _ xs) => ro || hasLstL xs
 | some (.box bt cs) => hasLstL cs
 | _ => false
def takeIn (n L : Nat) (d : Option Tmp) (r : T) (S1 S : Store) : Option (T × Store) :=
 match dedup (locsOf n r), d with
 | [], _ => if lvle n r then some (r, S) else none
 | _, some d =>
  if packOk n (dedup (locsOf n r)) S1 && lvle n r && decide ((dedup (locsOf n r)).length ≤ 1000) && (List.range (dedup (locsOf n r)).length).all (fun j => (S (L, 1000 * (d + 1) + j)).isNone) then
   some (rename S1 (packF n (dedup (locsOf n r)) L (1000 * (d + 1))) (fun p => p.1 == n) r, addS n (dedup (locsOf n r)) L (1000 * (d + 1)) S1 S)
  else none
 | _, none => none
def keepS (ls : List Loc) (r : T) (S1 S : Store) : Store := bif !ls.isEmpty && (hasLst r || arrLst S1 (dedup (locsOf 1 r))) then setRo S ls else S
def lay (L : Nat) (S1 S : Store) : Store := fun l => bif Nat.ble l.1 L then S1 l else S l
def lowC (L : Nat) (om : List Nat) (as : List T) : Bool := om.contains 1000 && Nat.blt 0 L && lvleL (L - 1) as
def lowTake (L : Nat) (d : Option Tmp) (r : T) (S1 S : Store) : Option (T × Store) :=
 if lvle (L - 1) r then some (r, S) else
 if (dedup (locsOf L r)).length ≤ 1 then
  match takeIn L L d r S1 S with
  | some (u, S2) => if lvle (L - 1) u then none else some (u, S2)
  | none => none
 else none
def plainC (L : Nat) (om : List Nat) (as caps : List T) : Bool := closedL as && caps.isEmpty && !(om.contains 3000 && Nat.ble 1 L)
def only (l : Loc) (S : Store) : Store := fun m => if m = l then S m else none
def lay1 (l : Loc) (S1 S : Store) : Store := fun m => if m = l then S1 m else S m
def boxC (S : Store) (l : Loc) : Bool := match S l with
 | some (.box _ cs) => closedL cs
 | _ => false
def ptr1 : List T → Option Loc
 | [.ptr l _] => some l
 | _ => none
def shut1 (om : List Nat) (as caps : List T) : Option Loc := bif om.contains 2000 && closedL as then ptr1 caps else none
def goW (call : CallF) (L : Nat) (d : Option Tmp) (g : FuncId) (as : List T) (S : Store) : Option Loc → Option Res
 | some l => if boxC S l = true then (match call L g as (only l S) with
   | some (r, S1) => if (closed r && boxC S1 l) = true then some ⟨r, lay1 l S1 S, 2⟩ else none
   | none => none) else none
 | none => match call L g as S with
   | some (r, S1) => (takeIn (L + 1) L d r S1 (trunc L S1)).map fun p => ⟨p.1, p.2, 2⟩
   | none => none
def goT (call : CallF) (om : FuncId → List Nat) (L : Nat) (d : Option Tmp) (S : Store) (g : FuncId) (args caps : List T) : Option Res :=
 match snapArgs (om g) S 0 args with
 | some (as, ls) =>
  if plainC L (om g) as caps then
   match call 0 g as emp with
   | some (r, S1) => (takeIn 1 L d r S1 (keepS ls r S1 S)).map fun p => ⟨p.1, p.2, 1⟩
   | none => none
  else if lowC L (om g) (as ++ caps) then
   match call (L - 1) g (as ++ caps) (trunc (L - 1) (setRo S ls)) with
   | some (r, S1) => (lowTake L d r S1 (lay (L - 1) S1 (setRo S ls))).map fun p => ⟨p.1, p.2, 2⟩
   | none => none
  else goW call L d g (as ++ caps) (setRo S ls) (shut1 (om g) as caps)
 | none => none
def callT (call : CallF) (om : FuncId → List Nat) (L : Nat) (d : Option Tmp) (S : Store) (f : T) (args : List T) : Option Res :=
 match f with
 | .sc (.func (.func g) _ _) => goT call om L d S g args []
 | .clo g caps => bif Nat.blt g 1000000000 then goT call om L d S g args caps else goT call om L d S (Nat.sub g 1000000000) (caps ++ args) []
 | _ => none
def evalOp (P : Program) (call : CallF) (om : FuncId → List Nat) (L : Nat) (o : Oper) (s : Slots) (S : Store) : Option Res :=
 match ruleA P o s with
 | some t => some ⟨t, S, 0⟩
 | none => match o.op with
  | .move x | .assign x => (ev s x).map fun t => ⟨t, S, 0⟩
  | .pick c a b => match ev s c, ev s a, ev s b with
   | some (.sc (.bool q)), some x, some y => some ⟨(bif q then x else y), S, 0⟩
   | _, _, _ => none
  | .binOp op t x y _ => match ev s x, ev s y with
   | some a, some b => (peqT P op t a b).map fun r => ⟨.sc (.bool r), S, 0⟩
   | _, _ => none
  | .alloc e => match zeroCellsT P e with
   | some z => newBox L o.dst e z S
   | none => none
  | .box e x => match ev s x with
   | some t => newBox L o.dst e t.cells S
   | none => none
  | .build t ps => (buildT P s t ps.toList).map fun t => ⟨t, S, 0⟩
  | .buildSlice t len ps => buildSliceT P om L o.dst s S t len ps.toList
  | .load t a => match ev s a with
   | some x => loadT P S t x
   | none => none
  | .store t a v => match ev s a, ev s v with
   | some x, some y => storeT P S t x y
   | _, _ => none
  | .nilCheck x => match ev s x with
   | some (.ptr l off) => some ⟨.ptr l off, S, 0⟩
   | _ => none
  | .convert src dst x => match ev s x with
   | some t => convT P S src dst t
   | none => none
  | .makeFunc (.func f) first caps => if first.size = 0 then (if Nat.blt f 1000000000 = true then (evL s caps.toList).map fun cs => ⟨.clo f cs, S, 0⟩ else none)
   else if caps.size = 0 then (evL s first.toList).map fun cs => ⟨.clo (Nat.add f 1000000000) cs, S, 0⟩ else none
  | .makeSlice t l c => match ev s l, ev s c with
   | some x, some y => makeT P L o.dst S t x y
   | _, _ => none
  | .slice t x lo hi mx => match ev s x with
   | some y => (sliceT P s S t y lo hi mx).map fun t => ⟨t, S, 0⟩
   | none => none
  | .fieldAddr t x f => match ev s x with
   | some y => (fieldAddrT P t f y).map fun t => ⟨t, S, 0⟩
   | none => none
  | .field t x f => match fieldT P t f, ev s x with
   | some (off, n, ft), some (.agg cs) => match isAggT P ft with
    | some ag => (readAt ag n cs off).map fun t => ⟨t, S, 0⟩
    | none => none
   | _, _ => none
  | .index t x i => match P.underlying t, ev s x, ev s i with
   | some (.array len e), some (.agg cs), some (.sc (.int _ m)) => match szOf P e, isAggT P e with
    | some sz, some ag => bif idxOk m len then (readAt ag sz cs (m.toNat * sz)).map fun t => ⟨t, S, 0⟩ else none
    | _, _ => none
   | _, _, _ => none
  | .indexAddr t x i => match ev s x, ev s i with
   | some y, some j => (indexAddrT P S t y j).map fun t => ⟨t, S, 0⟩
   | _, _ => none
  | .extract x j => match ev s x with
   | some (.tup ts) => (ts[j]?).map fun t => ⟨t, S, 0⟩
   | _ => none
  | .call c => match c.callee, evL s c.args.toList with
   | .builtin .len, some [.lst _ xs] => match c.argTypes.toList with
    | [t] => (elemT P t).map fun _ => ⟨.sc (.int .i64 xs.length), S, 0⟩
    | _ => none
   | .builtin .len, some [.own _ _ _ len] => match c.argTypes.toList with
    | [t] => (elemT P t).map fun _ => ⟨.sc (.int .i64 len), S, 0⟩
    | _ => none
   | .builtin .append, some [x, .sc (.string b)] => match c.argTypes.toList with
    | [t, u] => appendS P om L o.dst S t u x b
    | _ => none
   | .builtin .append, some [x, .sc (.int _ n)] => match c.argTypes.toList with
    | [t, u] => appendZ P L o.dst S t u x n
    | _ => none
   | .builtin .unsafeSliceData, some [x] => (usdT S x).map fun t => ⟨t, S, 1⟩
   | .builtin .unsafeString, some [x, y] => match c.argTypes.toList with
    | [pt, _] => (ustrT P S pt x y).map fun p => ⟨p.1, p.2, 2⟩
    | _ => none
   | .builtin .append, some [x, y] => match c.argTypes.toList with
    | [t, u] => appendT P om L o.dst S t u x y
    | _ => none
   | .builtin .copy, some [x, y] => match c.argTypes.toList with
    | [t, _] => copyT P S t x y
    | _ => none
   | .value f, some args => match ev s f with
    | some t => bif isNoEscO P f then (match args with
      | [.ptr l off] => some ⟨.ptr l off, S, 0⟩
      | _ => none) else callT call om L o.dst S t args
    | none => none
   | _, _ => none
  | _ => none
structure St where
 s : Slots
 S : Store
structure Head where
 kl : List Nat
 lv : List Nat
 sn : List Nat
 fu : Bool
def snapAll (S : Store) : List Nat → Slots → Slots × List Loc
 | [], s => (s, [])
 | d :: r, s => match snap S (get s d) with
  | some (u, ls) => ((d, u) :: (snapAll S r s).1, ls ++ (snapAll S r s).2)
  | none => snapAll S r s
def headOf (L : Nat) (a : Head) (q : Slots × List Loc) (S : Store) : St := ⟨maskL L a.kl a.lv q.1 (setRo S q.2), maskS L a.kl (setRo S q.2)⟩
def boxOne (L : Nat) (S : Store) (d : Nat) : Store :=
 if d < 10000000 then S else match S (L, d - 10000000) with
  | some (.box bt cs) => match snapL S cs with
   | some (us, ls) => upd (setRo S ls) (L, d - 10000000) (.box bt us)
   | none => S
  | _ => S
def boxAll (L : Nat) : List Nat → Store → Store
 | [], S => S
 | d :: r, S => boxAll L r (boxOne L S d)
def headSt (L : Nat) (a : Head) (st : St) : St := headOf L a (snapAll (boxAll L a.sn st.S) a.sn st.s) (boxAll L a.sn st.S)
def keepL (lv : List Nat) (s : Slots) : Slots := lv.map fun d => (d, get s d)
def leaveSt (L : Nat) (a : Head) (st : St) : St := bif a.fu then headSt L a st else ⟨keepL a.lv st.s, st.S⟩
inductive Ex where
 | nrm
 | exit (id : Nat)
 | ret
def putT (n : Nat) (s : Slots) (d : Option Tmp) (t : T) : Option Slots :=
 match d with
 | some d => if d < n then some ((d, t) :: s) else none
 | none => some s
def want (all : Array Oper) (s : Slots) (o : Oper) : Option Bool :=
 match o.guard with
 | none => some true
 | some (j, w) => match ((all[j]?).bind (·.dst)).map (get s) with
  | some (.sc (.bool b)) => some (b == w)
  | some (.tup []) => some false
  | _ => none
def stepOp (P : Program) (call : CallF) (om : FuncId → List Nat) (L n : Nat) (all : Array Oper) (i : Nat) (st : St) : Option St :=
 match all[i]? with
 | some o => match want all st.s o with
  | some true => match evalOp P call om L o st.s st.S with
   | some re => (putT n st.s o.dst re.t).map fun s => ⟨s, re.S⟩
   | none => none
  | some false => (putT n st.s o.dst (.tup [])).map fun s => ⟨s, st.S⟩
  | none => none
 | none => none
def evalOps (P : Program) (call : CallF) (om : FuncId → List Nat) (L n : Nat) (all : Array Oper) : List Nat → St → Option St
 | [], st => some st
 | i :: r, st => match stepOp P call om L n all i st with
  | some st' => evalOps P call om L n all r st'
  | none => none
def calm : Op → Bool
 | .move .. | .assign .. | .pick .. | .build .. | .nilCheck .. | .makeFunc .. | .slice .. | .fieldAddr .. | .field .. | .index .. | .indexAddr .. | .extract .. | .binOp .. | .unOp .. => true
 | .call { callee := .builtin .len, .. } | .call { callee := .builtin .min, .. } | .call { callee := .builtin .max, .. } => true
 | _ => false
def stEq (x y : St) : Prop := x.S = y.S ∧ ∀ d, get x.s d = get y.s d
def anyOk (P : Program) (call : CallF) (om : FuncId → List Nat) (L n : Nat) (md : Region.Mode) (ops : Array Oper) (fin : St) : Nat → Array Bool → St → Prop
 | 0, listed, st => Region.ready md ops listed = [] ∧ stEq st fin
 | k + 1, listed, st => (Region.ready md ops listed = [] ∧ stEq st fin) ∨
   (∃ i o st', i ∈ Region.ready md ops listed ∧ ops[i]? = some o ∧ calm o.op = true ∧ Region.free md ops listed i = true ∧ stepOp P call om L n ops i st = some st' ∧
    anyOk P call om L n md ops fin k (listed.setIfInBounds i true) st') ∨
   (Region.ready md ops listed ≠ [] ∧ ∀ i ∈ Region.ready md ops listed, ∃ st', stepOp P call om L n ops i st = some st' ∧ anyOk P call om L n md ops fin k (listed.setIfInBounds i true) st')
def drawOk (P : Program) (call : CallF) (om : FuncId → List Nat) (L n : Nat) (ops : Array Oper) (st fin : St) : Prop :=
 Region.noSelect ops = true ∧ ∀ md, anyOk P call om L n md ops fin ops.size (Array.replicate ops.size false) st
def firstRegion : Code → Nat
 | .region id _ _ => id
 | .seq a _ => firstRegion a
 | .block _ c => firstRegion c
 | .scope c => firstRegion c
 | .loop c => firstRegion c
 | _ => 0
def iter (f : St → Option (Ex × St)) : Nat → St → Option (Ex × St)
 | 0, _ => none
 | n + 1, st => match f st with
  | some (.nrm, st') => iter f n st'
  | r => r
open Classical in
noncomputable def lim {α : Type} (f : Nat → Option α) : Option α := if h : ∃ x k, f k = some x then some h.choose else none
open Classical in
noncomputable def evalC (P : Program) (call : CallF) (om : FuncId → List Nat) (an : Nat → Head) (L n : Nat) : Code → St → Option (Ex × St)
 | .skip, st | .label _, st => some (.nrm, st)
 | .region _ ops false, st => (evalOps P call om L n ops (List.range ops.size) st).map fun st' => (.nrm, st')
 | .region _ ops true, st => match evalOps P call om L n ops (List.range ops.size) st with
  | some st' => if drawOk P call om L n ops st st' then some (.nrm, st') else none
  | none => none
 | .seq a b, st => match evalC P call om an L n a st with
  | some (.nrm, st') => evalC P call om an L n b st'
  | r => r
 | .cond c x y, st => match ev st.s c with
  | some (.sc (.bool q)) => bif q then evalC P call om an L n x st else evalC P call om an L n y st
  | _ => none
 | .block id c, st => match evalC P call om an L n c st with
  | some (.exit i, st') => if i = id then some (.nrm, st') else some (.exit i, st')
  | r => r
 | .loop c, st => lim fun k => iter (fun st => evalC P call om an L n c (headSt L (an (3 * firstRegion c)) st)) k st
 | .scope c, st => evalC P call om an L n c st
 | .exit id, st => some (.exit id, leaveSt L (an (3 * id + 1)) st)
 | .ret, st => some (.ret, leaveSt L (an 3000002) st)
 | _, _ => none
def resT (P : Program) (s : Slots) (S : Store) : List ResultVar → Option (List T)
 | [] => some []
 | .tmp t :: r => (resT P s S r).map (get s t :: ·)
 | .cell a t :: r => match loadT P S t (get s a), resT P s S r with
  | some x, some l => some (x.t :: l)
  | _, _ => none
def oneT : List T → T
 | [t] => t
 | ts => .tup ts
structure Env where
 P : Program
 om : FuncId → List Nat
 an : FuncId → Nat → Head
 X : FuncId → Option (List T → Option T)
noncomputable def fnStep (E : Env) (call : CallF) : CallF := fun L f args S =>
 match E.X f with
 | some g => (g args).bind fun r => if closed r && !hasLst r && closedL args then some (r, S) else none
 | none => match E.P.funcs[f]? with
  | some fn => match fn.body with
   | some c =>
    if args.length ≤ fn.ntmps then
     match evalC E.P call E.om (E.an f) (L + 1) fn.ntmps c ⟨(List.range args.length).zip args, S⟩ with
     | some (.exit _, _) | none => none
     | some (_, st) => match resT E.P st.s st.S fn.results.toList with
      | some ts => hand (E.an f 3000005).fu (L + 1) (oneT ts) st.S
      | none => none
    else none
   | none => none
  | none => none
noncomputable def evalFn (E : Env) : Nat → CallF
 | 0 => fun _ _ _ _ => none
 | k + 1 => fnStep E (evalFn E k)
noncomputable def callF (E : Env) : CallF := fun L f args S => lim fun k => evalFn E k L f args S
structure Ctx where
 S : Store
 D : Loc → Prop
 β : Loc → Nat
 Sh : Nat → Prop
 w : World
def OwnOk (c : Ctx) (l : Loc) (g off len : Nat) (A : Option Addr) (cap : Nat) : Prop :=
 match c.S l with
 | some (.arr _ g' sz e xs) => g ≤ g' ∧ (g = g' → c.D l ∧ off + len ≤ xs.length ∧ len ≤ cap ∧
   (cap = 0 ∨ ∃ cur fz, A = some ⟨c.β l, off * sz, none⟩ ∧ c.w.heap[c.β l]? = some (.cells cur e fz) ∧ (off + cap) * sz ≤ cur.size))
 | some .gone => True
 | _ => False
def AptrOk (c : Ctx) (l : Loc) (g i off : Nat) (p : Addr) : Prop :=
 match c.S l with
 | some (.arr _ g' sz _ xs) => g ≤ g' ∧ (g = g' → c.D l ∧ i < xs.length ∧ p = ⟨c.β l, i * sz + off, none⟩)
 | some .gone => True
 | _ => False
def BoxOk (c : Ctx) (l : Loc) : Prop := c.D l ∧ ∃ bt cs, c.S l = some (.box bt cs)
mutual
inductive Rep (c : Ctx) : T → Value → Prop
 | undef (v : Value) : Rep c .undef v
 | sc (v : Value) (h : isSc v = true) : Rep c (.sc v) v
 | lst0 (sz : Nat) (A : Option Addr) (cap : Nat) : Rep c (.lst sz []) (.slice A 0 cap)
 | lst (sz : Nat) (xs : List T) (b o cap : Nat) (vs : List Value) (hs : c.Sh b) (hE : RepE c sz xs vs) (hc : ∀ i v, vs[i]? = some v → c.w.cell? ⟨b, o + i, none⟩ = some v)
   (hcap : xs.length ≤ cap) : Rep c (.lst sz xs) (.slice (some ⟨b, o, none⟩) xs.length cap)
 | own (l : Loc) (g off len : Nat) (A : Option Addr) (cap : Nat) (h : OwnOk c l g off len A cap) : Rep c (.own l g off len) (.slice A len cap)
 | ptr (l : Loc) (off : Nat) (h : BoxOk c l) : Rep c (.ptr l off) (.pointer (some ⟨c.β l, off, none⟩))
 | lptr (sz : Nat) (xs : List T) (i off b o : Nat) (vs : List Value) (hs : c.Sh b) (hE : RepE c sz xs vs) (hc : ∀ i v, vs[i]? = some v → c.w.cell? ⟨b, o + i, none⟩ = some v) :
   Rep c (.lptr sz xs i off) (.pointer (some ⟨b, o + i * sz + off, none⟩))
 | aptr (l : Loc) (g i off : Nat) (p : Addr) (h : AptrOk c l g i off p) : Rep c (.aptr l g i off) (.pointer (some p))
 | clo (f : FuncId) (cs : List T) (vs : List Value) (h : RepL c cs vs) (hf : Nat.blt f 1000000000 = true) : Rep c (.clo f cs) (.func (.func f) #[] vs.toArray)
 | mth (f : FuncId) (cs : List T) (vs : List Value) (h : RepL c cs vs) : Rep c (.clo (Nat.add f 1000000000) cs) (.func (.func f) vs.toArray #[])
 | agg (cs : List T) (vs : List Value) (h : RepL c cs vs) : Rep c (.agg cs) (.agg vs.toArray)
 | tup (cs : List T) (vs : List Value) (h : RepL c cs vs) : Rep c (.tup cs) (.tuple vs.toArray)
inductive RepL (c : Ctx) : List T → List Value → Prop
 | nil : RepL c [] []
 | cons (x : T) (v : Value) (xs : List T) (vs : List Value) (h : Rep c x v) (hr : RepL c xs vs) : RepL c (x :: xs) (v :: vs)
inductive RepE (c : Ctx) : Nat → List T → List Value → Prop
 | nil (sz : Nat) : RepE c sz [] []
 | cons (sz : Nat) (x : T) (v : Value) (xs : List T) (ws : List Value) (h : Rep c x v) (hl : x.cells.length = sz) (hcl : closed x = true) (hr : RepE c sz xs ws) :
   RepE c sz (x :: xs) (v.cells.toList ++ ws)
end
structure Kept (c c' : Ctx) : Prop where
 sh : ∀ b, c.Sh b → c'.Sh b ∧ c'.w.heap[b]? = c.w.heap[b]?
 box : ∀ l, BoxOk c l → BoxOk c' l ∧ c'.β l = c.β l
 arr : ∀ l ro g sz e xs, c.S l = some (.arr ro g sz e xs) → c'.S l = some .gone ∨ ∃ ro' g' sz' e' xs', c'.S l = some (.arr ro' g' sz' e' xs') ∧ g ≤ g' ∧
  (g = g' → sz' = sz ∧ e' = e ∧ xs'.length = xs.length ∧ (c.D l → c'.D l ∧ c'.β l = c.β l ∧
   ∀ cur fz, c.w.heap[c.β l]? = some (.cells cur e fz) → ∃ cur' fz', c'.w.heap[c.β l]? = some (.cells cur' e fz') ∧ cur'.size = cur.size))
 gone : ∀ l, c.S l = some .gone → c'.S l = some .gone
theorem OwnOk.kept {c c' : Ctx} (h : Kept c c') {l : Loc} {g off len : Nat} {A : Option Addr} {cap : Nat} (ho : OwnOk c l g off len A cap) : OwnOk c' l g off len A cap := by
 unfold OwnOk at ho ⊢
 cases hS : c.S l with
 | none => simp [hS] at ho
 | some o =>
  cases o with
  | box bt cs => simp [hS] at ho
  | gone => rw [h.gone l hS]; trivial
  | arr ro g0 sz e xs =>
   simp only [hS] at ho
   rcases h.arr l ro g0 sz e xs hS with hg | ⟨ro', g', sz', e', xs', hS', hle, hk⟩
   ·rw [hg]; trivial
   ·rw [hS']
    refine ⟨Nat.le_trans ho.1 hle, fun hgg => ?_⟩
    have hg0 : g = g0 := by omega
    have hg1 : g0 = g' := by omega
    obtain ⟨hD, hlen, hcap, hA⟩ := ho.2 hg0
    obtain ⟨rfl, rfl, hxl, hk⟩ := hk hg1
    obtain ⟨hD', hβ, hcells⟩ := hk hD
    refine ⟨hD', by omega, hcap, ?_⟩
    rcases hA with h0 | ⟨cur, fz, hA, hw, hsz⟩
    ·exact .inl h0
    ·obtain ⟨cur', fz', hw', hs'⟩ := hcells cur fz hw
     exact .inr ⟨cur', fz', by rw [hβ]; exact hA, by rw [hβ]; exact hw', by omega⟩
theorem AptrOk.kept {c c' : Ctx} (h : Kept c c') {l : Loc} {g i off : Nat} {p : Addr} (ho : AptrOk c l g i off p) : AptrOk c' l g i off p := by
 unfold AptrOk at ho ⊢
 cases hS : c.S l with
 | none => simp [hS] at ho
 | some o =>
  cases o with
  | box bt cs => simp [hS] at ho
  | gone => rw [h.gone l hS]; trivial
  | arr ro g0 sz e xs =>
   simp only [hS] at ho
   rcases h.arr l ro g0 sz e xs hS with hg | ⟨ro', g', sz', e', xs', hS', hle, hk⟩
   ·rw [hg]; trivial
   ·rw [hS']
    refine ⟨Nat.le_trans ho.1 hle, fun hgg => ?_⟩
    have hg0 : g = g0 := by omega
    have hg1 : g0 = g' := by omega
    obtain ⟨hD, hi, hp⟩ := ho.2 hg0
    obtain ⟨rfl, rfl, hxl, hk⟩ := hk hg1
    obtain ⟨hD', hβ, _⟩ := hk hD
    exact ⟨hD', by omega, by rw [hβ]; exact hp⟩
theorem cell_kept {w w' : World} {b i : Nat} (h : w'.heap[b]? = w.heap[b]?) : w'.cell? ⟨b, i, none⟩ = w.cell? ⟨b, i, none⟩ := by simp [World.cell?, h]
mutual
theorem Rep.kept {c c' : Ctx} (h : Kept c c') {t : T} {v : Value} : Rep c t v → Rep c' t v
 | .undef v => .undef v
 | .sc v hv => .sc v hv
 | .lst0 sz A cap => .lst0 sz A cap
 | .lst sz xs b o cap vs hs hE hc hcap => .lst sz xs b o cap vs (h.sh b hs).1 (RepE.kept h hE) (fun i v hi => (cell_kept (h.sh b hs).2).trans (hc i v hi)) hcap
 | .own l g off len A cap ho => .own l g off len A cap (ho.kept h)
 | .ptr l off hb => by
  have hp := Rep.ptr (c := c') l off (h.box l hb).1
  rw [(h.box l hb).2] at hp
  exact hp
 | .lptr sz xs i off b o vs hs hE hc => .lptr sz xs i off b o vs (h.sh b hs).1 (RepE.kept h hE) (fun i v hi => (cell_kept (h.sh b hs).2).trans (hc i v hi))
 | .aptr l g i off p ho => .aptr l g i off p (ho.kept h)
 | .clo f cs vs hl hf => .clo f cs vs (RepL.kept h hl) hf
 | .mth f cs vs hl => .mth f cs vs (RepL.kept h hl)
 | .agg cs vs hl => .agg cs vs (RepL.kept h hl)
 | .tup cs vs hl => .tup cs vs (RepL.kept h hl)
theorem RepL.kept {c c' : Ctx} (h : Kept c c') {ts : List T} {vs : List Value} : RepL c ts vs → RepL c' ts vs
 | .nil => .nil
 | .cons x v xs vs hx hr => .cons x v xs vs (Rep.kept h hx) (RepL.kept h hr)
theorem RepE.kept {c c' : Ctx} (h : Kept c c') {sz : Nat} {ts : List T} {vs : List Value} : RepE c sz ts vs → RepE c' sz ts vs
 | .nil sz => .nil sz
 | .cons sz x v xs ws hx hl hcl hr => .cons sz x v xs ws (Rep.kept h hx) hl hcl (RepE.kept h hr)
end
theorem Kept.refl (c : Ctx) : Kept c c := ⟨fun _ h => ⟨h, rfl⟩, fun _ h => ⟨h, rfl⟩,
 fun l ro g sz e xs h => .inr ⟨ro, g, sz, e, xs, h, Nat.le_refl _, fun _ => ⟨rfl, rfl, rfl, fun hD => ⟨hD, rfl, fun cur fz hw => ⟨cur, fz, hw, rfl⟩⟩⟩⟩, fun _ h => h⟩
theorem Kept.trans {a b c : Ctx} (h : Kept a b) (k : Kept b c) : Kept a c := by
 refine ⟨fun x hx => ⟨(k.sh x (h.sh x hx).1).1, (k.sh x (h.sh x hx).1).2.trans (h.sh x hx).2⟩,
  fun l hl => ⟨(k.box l (h.box l hl).1).1, (k.box l (h.box l hl).1).2.trans (h.box l hl).2⟩, fun l ro g sz e xs hS => ?_, fun l hl => k.gone l (h.gone l hl)⟩
 rcases h.arr l ro g sz e xs hS with hg | ⟨ro1, g1, sz1, e1, xs1, hS1, hle1, hk1⟩
 ·exact .inl (k.gone l hg)
 ·rcases k.arr l ro1 g1 sz1 e1 xs1 hS1 with hg | ⟨ro2, g2, sz2, e2, xs2, hS2, hle2, hk2⟩
  ·exact .inl hg
  ·refine .inr ⟨ro2, g2, sz2, e2, xs2, hS2, Nat.le_trans hle1 hle2, fun hgg => ?_⟩
   obtain ⟨rfl, rfl, hx1, hm1⟩ := hk1 (by omega)
   obtain ⟨rfl, rfl, hx2, hm2⟩ := hk2 (by omega)
   refine ⟨rfl, rfl, hx2.trans hx1, fun hD => ?_⟩
   obtain ⟨hD1, hβ1, hc1⟩ := hm1 hD
   obtain ⟨hD2, hβ2, hc2⟩ := hm2 hD1
   refine ⟨hD2, hβ2.trans hβ1, fun cur fz hw => ?_⟩
   obtain ⟨cur1, fz1, hw1, hs1⟩ := hc1 cur fz hw
   obtain ⟨cur2, fz2, hw2, hs2⟩ := hc2 cur1 fz1 (by rw [hβ1]; exact hw1)
   exact ⟨cur2, fz2, by rw [hβ1] at hw2; exact hw2, hs2.trans hs1⟩
def Mut (c : Ctx) (l : Loc) : Prop := match c.S l with
 | some (.box _ _) => True
 | some (.arr ro _ _ _ _) => ro = false
 | _ => False
structure Rel (c : Ctx) : Prop where
 box : ∀ l bt cs, c.D l → c.S l = some (.box bt cs) → lvleL l.1 cs = true ∧ ∃ vs, c.w.heap[c.β l]? = some (.cells vs.toArray bt (0, 0)) ∧ RepL c cs vs
 arr : ∀ l ro g sz e xs, c.D l → c.S l = some (.arr ro g sz e xs) → ∃ cur fz vs, c.w.heap[c.β l]? = some (.cells cur e fz) ∧ (ro = false → fz = (0, 0)) ∧ (ro = true → c.Sh (c.β l)) ∧
  RepE c sz xs vs ∧ cur.toList.take vs.length = vs
 nsh : ∀ l, c.D l → Mut c l → ¬ c.Sh (c.β l)
 inj : ∀ l l', c.D l → c.D l' → Mut c l → Mut c l' → c.β l = c.β l' → l = l'
 lt : ∀ b, c.Sh b → b < c.w.heap.size
 dom : ∀ l, c.D l → c.S l ≠ none
structure Fr (c c' : Ctx) : Prop where
 os : c'.w.os = c.w.os
 tape : c'.w.tape = c.w.tape
 output : c'.w.output = c.w.output
 size : c.w.heap.size ≤ c'.w.heap.size
 blk : ∀ b, b < c.w.heap.size → (∀ l, c.D l → Mut c l → c.β l ≠ b) → c'.w.heap[b]? = c.w.heap[b]?
 own : ∀ l, c'.D l → Mut c' l → (c.D l ∧ Mut c l ∧ c'.β l = c.β l) ∨ c.w.heap.size ≤ c'.β l
 shn : ∀ b, c'.Sh b → c.Sh b ∨ c.w.heap.size ≤ b ∨ ∃ l, c.D l ∧ Mut c l ∧ c.β l = b
theorem Fr.refl (c : Ctx) : Fr c c := ⟨rfl, rfl, rfl, Nat.le_refl _, fun _ _ _ => rfl, fun _ hD hm => .inl ⟨hD, hm, rfl⟩, fun _ h => .inl h⟩
theorem Fr.trans {a b c : Ctx} (h : Fr a b) (k : Fr b c) : Fr a c := by
 refine ⟨k.os.trans h.os, k.tape.trans h.tape, k.output.trans h.output, Nat.le_trans h.size k.size, fun x hx hn => ?_, fun l hD hm => ?_, fun x hx => ?_⟩
 ·refine (k.blk x (Nat.lt_of_lt_of_le hx h.size) (fun l hD hm => ?_)).trans (h.blk x hx hn)
  rcases h.own l hD hm with ⟨hD0, hm0, hβ⟩ | hge
  ·rw [hβ]; exact hn l hD0 hm0
  ·omega
 ·rcases k.own l hD hm with ⟨hD1, hm1, hβ1⟩ | hge
  ·rcases h.own l hD1 hm1 with ⟨hD0, hm0, hβ0⟩ | hge
   ·exact .inl ⟨hD0, hm0, hβ1.trans hβ0⟩
   ·exact .inr (by rw [hβ1]; exact hge)
  ·exact .inr (Nat.le_trans h.size hge)
 ·rcases k.shn x hx with h1 | h1 | ⟨l, hD, hm, rfl⟩
  ·exact h.shn x h1
  ·exact .inr (.inl (Nat.le_trans h.size h1))
  ·rcases h.own l hD hm with ⟨hD0, hm0, hβ⟩ | hge
   ·exact .inr (.inr ⟨l, hD0, hm0, hβ.symm⟩)
   ·exact .inr (.inl hge)
structure Calm (w w' : World) : Prop where
 os : w'.os = w.os
 tape : w'.tape = w.tape
 output : w'.output = w.output
theorem lt_of_get {w : World} {b : Nat} {o : Go.Obj} (h : w.heap[b]? = some o) : b < w.heap.size := by
 rcases Nat.lt_or_ge b w.heap.size with hl | hl
 ·exact hl
 ·rw [Array.getElem?_eq_none hl] at h; cases h
theorem Rel.mutLt {c : Ctx} (h : Rel c) {l : Loc} (hD : c.D l) (hm : Mut c l) : c.β l < c.w.heap.size := by
 unfold Mut at hm
 cases hS : c.S l with
 | none => simp [hS] at hm
 | some o =>
  cases o with
  | gone => simp [hS] at hm
  | box bt cs => obtain ⟨_, vs, hw, _⟩ := h.box l bt cs hD hS; exact lt_of_get hw
  | arr ro g sz e xs => obtain ⟨cur, fz, vs, hw, _⟩ := h.arr l ro g sz e xs hD hS; exact lt_of_get hw
theorem Rel.liveLt {c : Ctx} (h : Rel c) {l : Loc} (hD : c.D l) {o : Obj} (hS : c.S l = some o) (ho : o ≠ .gone) : c.β l < c.w.heap.size := by
 cases o with
 | gone => exact absurd rfl ho
 | box bt cs => obtain ⟨_, vs, hw, _⟩ := h.box l bt cs hD hS; exact lt_of_get hw
 | arr ro g sz e xs => obtain ⟨cur, fz, vs, hw, _⟩ := h.arr l ro g sz e xs hD hS; exact lt_of_get hw
def ctxNew (c : Ctx) (l : Loc) (o : Obj) (w' : World) : Ctx :=
 { S := upd c.S l o, D := fun m => c.D m ∨ m = l, β := fun m => if m = l then c.w.heap.size else c.β m, Sh := c.Sh, w := w' }
theorem upd_same (S : Store) (l : Loc) (o : Obj) : upd S l o l = some o := by simp [upd]
theorem upd_ne (S : Store) {l m : Loc} (o : Obj) (h : m ≠ l) : upd S l o m = S m := by simp [upd, h]
theorem ctxNew_kept {c : Ctx} {l : Loc} {o : Obj} {w' : World} (hl : c.S l = none) (hw : ∀ b, b < c.w.heap.size → w'.heap[b]? = c.w.heap[b]?) (hR : Rel c) : Kept c (ctxNew c l o w') := by
 have ne : ∀ m o', c.S m = some o' → m ≠ l := fun m o' hm e => by rw [e, hl] at hm; cases hm
 refine ⟨fun b hb => ⟨hb, hw b (hR.lt b hb)⟩, fun m hm => ?_, fun m ro g sz e xs hS => .inr ?_, fun m hS => ?_⟩
 ·obtain ⟨hD, bt, cs, hS⟩ := hm
  exact ⟨⟨.inl hD, bt, cs, by simp only [ctxNew]; rw [upd_ne _ _ (ne m _ hS)]; exact hS⟩, by simp [ctxNew, ne m _ hS]⟩
 ·refine ⟨ro, g, sz, e, xs, by simp only [ctxNew]; rw [upd_ne _ _ (ne m _ hS)]; exact hS, Nat.le_refl _, fun _ => ⟨rfl, rfl, rfl, fun hD => ⟨.inl hD, by simp [ctxNew, ne m _ hS], fun cur fz hc => ⟨cur, fz, ?_, rfl⟩⟩⟩⟩
  simp only [ctxNew]
  rw [hw _ (lt_of_get hc)]; exact hc
 ·simp only [ctxNew]; rw [upd_ne _ _ (ne m _ hS)]; exact hS
theorem ctxNew_rel {c : Ctx} {l : Loc} {o : Obj} {w' : World} (hR : Rel c) (hl : c.S l = none) (hw : ∀ b, b < c.w.heap.size → w'.heap[b]? = c.w.heap[b]?)
  (hsz : c.w.heap.size ≤ w'.heap.size) {cur : Array Value} {ty : TypeId} (hn : w'.heap[c.w.heap.size]? = some (.cells cur ty (0, 0)))
  (hb : ∀ bt cs, o = .box bt cs → bt = ty ∧ lvleL l.1 cs = true ∧ ∃ vs, cur = vs.toArray ∧ RepL c cs vs)
  (ha : ∀ ro g sz e xs, o = .arr ro g sz e xs → ro = false ∧ ty = e ∧ ∃ vs, RepE c sz xs vs ∧ cur.toList.take vs.length = vs) : Rel (ctxNew c l o w') := by
 have hk := ctxNew_kept (o := o) hl hw hR
 have hDl : ¬ c.D l := fun h => hR.dom l h hl
 have ne : ∀ m, c.D m → m ≠ l := fun m hm e => hDl (e ▸ hm)
 have hmut : ∀ m, c.D m → Mut (ctxNew c l o w') m → Mut c m := fun m hm h => by simpa [Mut, ctxNew, upd_ne _ _ (ne m hm)] using h
 refine ⟨fun m bt cs hD hS => ?_, fun m ro g sz e xs hD hS => ?_, fun m hD hm => ?_, fun m m' hD hD' hm hm' hβ => ?_, fun b hb' => Nat.lt_of_lt_of_le (hR.lt b hb') hsz, fun m hD hS => ?_⟩
 ·by_cases e : m = l
  ·subst e
   rw [show (ctxNew c m o w').S m = some o from upd_same _ _ _] at hS
   obtain ⟨h0, h1, vs, h3, h4⟩ := hb bt cs (Option.some.inj hS)
   subst h0
   exact ⟨h1, vs, by simp only [ctxNew, if_true]; rw [hn, h3], h4.kept hk⟩
  ·have hD : c.D m := hD.resolve_right e
   rw [show (ctxNew c l o w').S m = c.S m from upd_ne _ _ e] at hS
   obtain ⟨h1, vs, h3, h4⟩ := hR.box m bt cs hD hS
   exact ⟨h1, vs, by simp only [ctxNew, e, if_false]; rw [hw _ (lt_of_get h3)]; exact h3, h4.kept hk⟩
 ·by_cases e' : m = l
  ·subst e'
   rw [show (ctxNew c m o w').S m = some o from upd_same _ _ _] at hS
   obtain ⟨rfl, rfl, vs, h3, h4⟩ := ha ro g sz e xs (Option.some.inj hS)
   exact ⟨cur, (0, 0), vs, by simp only [ctxNew, if_true]; exact hn, fun _ => rfl, fun h => by simp at h, h3.kept hk, h4⟩
  ·have hD : c.D m := hD.resolve_right e'
   rw [show (ctxNew c l o w').S m = c.S m from upd_ne _ _ e'] at hS
   obtain ⟨cur', fz, vs, h3, h4, h5, h6, h7⟩ := hR.arr m ro g sz e xs hD hS
   exact ⟨cur', fz, vs, by simp only [ctxNew, e', if_false]; rw [hw _ (lt_of_get h3)]; exact h3, h4, fun h => by simp only [ctxNew, e', if_false]; exact h5 h, h6.kept hk, h7⟩
 ·by_cases e : m = l
  ·subst e
   intro h
   have := hR.lt _ h
   simp [ctxNew] at this
  ·have hD : c.D m := hD.resolve_right e
   have := hR.nsh m hD (hmut m hD hm)
   simpa [ctxNew, e] using this
 ·by_cases e : m = l
  ·by_cases e' : m' = l
   ·rw [e, e']
   ·have hD' : c.D m' := hD'.resolve_right e'
    have := hR.mutLt hD' (hmut m' hD' hm')
    simp only [ctxNew, e, e', if_true, if_false] at hβ
    omega
  ·have hD : c.D m := hD.resolve_right e
   by_cases e' : m' = l
   ·have := hR.mutLt hD (hmut m hD hm)
    simp only [ctxNew, e, e', if_true, if_false] at hβ
    omega
   ·have hD' : c.D m' := hD'.resolve_right e'
    simp only [ctxNew, e, e', if_false] at hβ
    exact hR.inj m m' hD hD' (hmut m hD hm) (hmut m' hD' hm') hβ
 ·by_cases e : m = l
  ·subst e
   rw [show (ctxNew c m o w').S m = some o from upd_same _ _ _] at hS
   cases hS
  ·rw [show (ctxNew c l o w').S m = c.S m from upd_ne _ _ e] at hS
   exact hR.dom m (hD.resolve_right e) hS
theorem ctxNew_fr {c : Ctx} {l : Loc} {o : Obj} {w' : World} (hR : Rel c) (hl : c.S l = none) (hc : Calm c.w w') (hw : ∀ b, b < c.w.heap.size → w'.heap[b]? = c.w.heap[b]?)
  (hsz : c.w.heap.size ≤ w'.heap.size) : Fr c (ctxNew c l o w') := by
 refine ⟨hc.os, hc.tape, hc.output, hsz, fun b hb _ => hw b hb, fun m hD hm => ?_, fun b hb => .inl hb⟩
 by_cases e : m = l
 ·right; simp [ctxNew, e]
 ·left
  have hD : c.D m := hD.resolve_right e
  exact ⟨hD, by simpa [Mut, ctxNew, upd_ne _ _ e] using hm, by simp [ctxNew, e]⟩
def ctxPut (c : Ctx) (l : Loc) (o : Obj) (b : Nat) (w' : World) : Ctx :=
 { S := upd c.S l o, D := c.D, β := fun m => if m = l then b else c.β m, Sh := c.Sh, w := w' }
def PutOk (c : Ctx) (l : Loc) (o : Obj) (b : Nat) (w' : World) : Prop :=
 (∃ bt cs cs', c.S l = some (.box bt cs) ∧ o = .box bt cs' ∧ b = c.β l) ∨
 ∃ g sz e xs g' xs', c.S l = some (.arr false g sz e xs) ∧ o = .arr false g' sz e xs' ∧ (g < g' ∨ g = g' ∧ xs'.length = xs.length ∧ b = c.β l ∧
  ∀ cur fz, c.w.heap[c.β l]? = some (.cells cur e fz) → ∃ cur' fz', w'.heap[c.β l]? = some (.cells cur' e fz') ∧ cur'.size = cur.size)
theorem PutOk.mut {c : Ctx} {l : Loc} {o : Obj} {b : Nat} {w' : World} (h : PutOk c l o b w') : Mut c l := by
 rcases h with ⟨bt, cs, cs', h, _, _⟩ | ⟨g, sz, e, xs, g', xs', h, _, _⟩ <;> simp [Mut, h]
theorem ctxPut_kept {c : Ctx} {l : Loc} {o : Obj} {b : Nat} {w' : World} (hR : Rel c) (hD : c.D l) (hp : PutOk c l o b w')
  (hw : ∀ x, x < c.w.heap.size → x ≠ c.β l → w'.heap[x]? = c.w.heap[x]?) : Kept c (ctxPut c l o b w') := by
 have hm := hp.mut
 refine ⟨fun x hx => ⟨hx, hw x (hR.lt x hx) (fun e => hR.nsh l hD hm (e ▸ hx))⟩, fun m hm' => ?_, fun m ro g sz e xs hS => .inr ?_, fun m hS => ?_⟩
 ·obtain ⟨hDm, bt, cs, hS⟩ := hm'
  by_cases e : m = l
  ·subst e
   rcases hp with ⟨bt0, cs0, cs', h, ho, hb⟩ | ⟨g, sz, e, xs, g', xs', h, _, _⟩
   ·exact ⟨⟨hDm, bt0, cs', by rw [← ho]; exact upd_same _ _ _⟩, by simp [ctxPut, hb]⟩
   ·rw [h] at hS; cases hS
  ·exact ⟨⟨hDm, bt, cs, by simp only [ctxPut]; rw [upd_ne _ _ e]; exact hS⟩, by simp [ctxPut, e]⟩
 ·by_cases e' : m = l
  ·subst e'
   rcases hp with ⟨bt0, cs0, cs', h, ho, hb⟩ | ⟨g0, sz0, e0, xs0, g', xs', h, ho, hg⟩
   ·rw [h] at hS; cases hS
   ·rw [h] at hS
    obtain ⟨rfl, rfl, rfl, rfl, rfl⟩ : ro = false ∧ g0 = g ∧ sz0 = sz ∧ e0 = e ∧ xs0 = xs := by
     injection hS with hS; injection hS with h1 h2 h3 h4 h5; exact ⟨h1.symm, h2, h3, h4, h5⟩
    refine ⟨false, g', sz0, e0, xs', by rw [← ho]; exact upd_same _ _ _, by omega, fun hgg => ?_⟩
    obtain ⟨_, hlen, hb, hc⟩ : g0 = g' ∧ xs'.length = xs0.length ∧ b = c.β m ∧ _ := hg.resolve_left (by omega)
    exact ⟨rfl, rfl, hlen, fun hDm => ⟨hDm, by simp [ctxPut, hb], fun cur fz hcur => hc cur fz hcur⟩⟩
  ·refine ⟨ro, g, sz, e, xs, by simp only [ctxPut]; rw [upd_ne _ _ e']; exact hS, Nat.le_refl _, fun _ => ⟨rfl, rfl, rfl, fun hDm => ⟨hDm, by simp [ctxPut, e'], fun cur fz hc => ?_⟩⟩⟩
   by_cases hb : c.β m = c.β l
   ·cases ro with
    | false =>
     have : m = l := hR.inj m l hDm hD (by simp [Mut, hS]) hm hb
     exact absurd this e'
    | true =>
     obtain ⟨_, _, _, _, _, hsh, _⟩ := hR.arr m true g sz e xs hDm hS
     exact absurd (hb ▸ hsh rfl) (hR.nsh l hD hm)
   ·exact ⟨cur, fz, by simp only [ctxPut]; rw [hw _ (lt_of_get hc) hb]; exact hc, rfl⟩
 ·have e : m ≠ l := fun e => by subst e; rcases hp with ⟨_, _, _, h, _, _⟩ | ⟨_, _, _, _, _, _, h, _, _⟩ <;> (rw [h] at hS; cases hS)
  simp only [ctxPut]; rw [upd_ne _ _ e]; exact hS
theorem ctxPut_rel {c : Ctx} {l : Loc} {o : Obj} {b : Nat} {w' : World} (hR : Rel c) (hD : c.D l) (hp : PutOk c l o b w')
  (hw : ∀ x, x < c.w.heap.size → x ≠ c.β l → w'.heap[x]? = c.w.heap[x]?) (hsz : c.w.heap.size ≤ w'.heap.size) (hb : b = c.β l ∨ c.w.heap.size ≤ b)
  {cur : Array Value} {ty : TypeId} (hn : w'.heap[b]? = some (.cells cur ty (0, 0)))
  (hbx : ∀ bt cs, o = .box bt cs → bt = ty ∧ lvleL l.1 cs = true ∧ ∃ vs, cur = vs.toArray ∧ RepL c cs vs)
  (ha : ∀ ro g sz e xs, o = .arr ro g sz e xs → ty = e ∧ ∃ vs, RepE c sz xs vs ∧ cur.toList.take vs.length = vs) : Rel (ctxPut c l o b w') := by
 have hk := ctxPut_kept hR hD hp hw
 have hml := hp.mut
 have hmut : ∀ m, Mut (ctxPut c l o b w') m → Mut c m := fun m h => by
  by_cases e : m = l
  ·rw [e]; exact hml
  ·simpa [Mut, ctxPut, upd_ne _ _ e] using h
 have nb : ∀ m, c.D m → m ≠ l → ∀ o', c.S m = some o' → o' ≠ .gone → c.β m ≠ c.β l := fun m hDm e o' hS ho hβ => by
  cases o' with
  | gone => exact ho rfl
  | box bt cs => exact e (hR.inj m l hDm hD (by simp [Mut, hS]) hml hβ)
  | arr ro g sz e1 xs =>
   cases ro with
   | false => exact e (hR.inj m l hDm hD (by simp [Mut, hS]) hml hβ)
   | true =>
    obtain ⟨_, _, _, _, _, hsh, _⟩ := hR.arr m true g sz e1 xs hDm hS
    exact hR.nsh l hD hml (hβ ▸ hsh rfl)
 refine ⟨fun m bt cs hDm hS => ?_, fun m ro g sz e xs hDm hS => ?_, fun m hDm hm => ?_, fun m m' hDm hDm' hm hm' hβ => ?_, fun x hx => Nat.lt_of_lt_of_le (hR.lt x hx) hsz, fun m hDm hS => ?_⟩
 ·by_cases e : m = l
  ·subst e
   rw [show (ctxPut c m o b w').S m = some o from upd_same _ _ _] at hS
   obtain ⟨h0, h1, vs, h3, h4⟩ := hbx bt cs (Option.some.inj hS)
   subst h0
   exact ⟨h1, vs, by simp only [ctxPut, if_true]; rw [hn, h3], h4.kept hk⟩
  ·rw [show (ctxPut c l o b w').S m = c.S m from upd_ne _ _ e] at hS
   obtain ⟨h1, vs, h3, h4⟩ := hR.box m bt cs hDm hS
   exact ⟨h1, vs, by simp only [ctxPut, e, if_false]; rw [hw _ (lt_of_get h3) (nb m hDm e _ hS (by simp))]; exact h3, h4.kept hk⟩
 ·by_cases e' : m = l
  ·subst e'
   rw [show (ctxPut c m o b w').S m = some o from upd_same _ _ _] at hS
   obtain ⟨rfl, vs, h3, h4⟩ := ha ro g sz e xs (Option.some.inj hS)
   have hro : ro = false := by
    rcases hp with ⟨_, _, _, _, ho, _⟩ | ⟨_, _, _, _, _, _, _, ho, _⟩
    ·rw [ho] at hS; cases hS
    ·rw [ho] at hS; injection hS with hS; injection hS with h1; exact h1.symm
   subst hro
   refine ⟨cur, (0, 0), vs, by simp only [ctxPut, if_true]; exact hn, fun _ => rfl, ?_, h3.kept hk, h4⟩
   intro h; cases h
  ·rw [show (ctxPut c l o b w').S m = c.S m from upd_ne _ _ e'] at hS
   obtain ⟨cur', fz, vs, h3, h4, h5, h6, h7⟩ := hR.arr m ro g sz e xs hDm hS
   exact ⟨cur', fz, vs, by simp only [ctxPut, e', if_false]; rw [hw _ (lt_of_get h3) (nb m hDm e' _ hS (by simp))]; exact h3, h4, fun h => by simp only [ctxPut, e', if_false]; exact h5 h, h6.kept hk, h7⟩
 ·by_cases e : m = l
  ·subst e
   simp only [ctxPut, if_true]
   rcases hb with hb | hb
   ·rw [hb]; exact hR.nsh m hD hml
   ·intro h; have := hR.lt _ h; omega
  ·have := hR.nsh m hDm (hmut m hm)
   simpa [ctxPut, e] using this
 ·by_cases e : m = l
  ·by_cases e' : m' = l
   ·rw [e, e']
   ·simp only [ctxPut, e, e', if_true, if_false] at hβ
    rcases hb with hb | hb
    ·rw [e]; exact (hR.inj l m' hD hDm' hml (hmut m' hm') (by rw [← hb]; exact hβ))
    ·have := hR.mutLt hDm' (hmut m' hm'); omega
  ·by_cases e' : m' = l
   ·simp only [ctxPut, e, e', if_true, if_false] at hβ
    rcases hb with hb | hb
    ·rw [e']; exact (hR.inj m l hDm hD (hmut m hm) hml (by rw [← hb]; exact hβ))
    ·have := hR.mutLt hDm (hmut m hm); omega
   ·simp only [ctxPut, e, e', if_false] at hβ
    exact hR.inj m m' hDm hDm' (hmut m hm) (hmut m' hm') hβ
 ·by_cases e : m = l
  ·subst e
   rw [show (ctxPut c m o b w').S m = some o from upd_same _ _ _] at hS
   cases hS
  ·rw [show (ctxPut c l o b w').S m = c.S m from upd_ne _ _ e] at hS
   exact hR.dom m hDm hS
theorem ctxPut_fr {c : Ctx} {l : Loc} {o : Obj} {b : Nat} {w' : World} (hD : c.D l) (hp : PutOk c l o b w') (hc : Calm c.w w')
  (hw : ∀ x, x < c.w.heap.size → x ≠ c.β l → w'.heap[x]? = c.w.heap[x]?) (hsz : c.w.heap.size ≤ w'.heap.size) (hb : b = c.β l ∨ c.w.heap.size ≤ b) : Fr c (ctxPut c l o b w') := by
 refine ⟨hc.os, hc.tape, hc.output, hsz, fun x hx hn => hw x hx (fun e => hn l hD hp.mut e.symm), fun m hDm hm => ?_, fun b hb => .inl hb⟩
 by_cases e : m = l
 ·subst e
  rcases hb with hb | hb
  ·exact .inl ⟨hD, hp.mut, by simp [ctxPut, hb]⟩
  ·exact .inr (by simp only [ctxPut, if_true]; exact hb)
 ·exact .inl ⟨hDm, by simpa [Mut, ctxPut, upd_ne _ _ e] using hm, by simp [ctxPut, e]⟩
theorem isSc_cells {v : Value} (h : isSc v = true) : v.cells = #[v] := by
 cases v <;> simp [isSc, Value.cells] at *
theorem isSc_one {v : Value} (h : isSc v = true) : v.oneCell' = true := by
 cases v <;> simp [isSc, Value.oneCell'] at *
mutual
theorem closed_kept {c c' : Ctx} (hs : ∀ b, c.Sh b → c'.Sh b ∧ c'.w.heap[b]? = c.w.heap[b]?) {t : T} {v : Value} (hc : closed t = true) : Rep c t v → Rep c' t v
 | .undef v => .undef v
 | .sc v hv => .sc v hv
 | .lst0 sz A cap => .lst0 sz A cap
 | .lst sz xs b o cap vs hsh hE hcell hcap => .lst sz xs b o cap vs (hs b hsh).1 (repE_kept hs hE) (fun i v hi => (cell_kept (hs b hsh).2).trans (hcell i v hi)) hcap
 | .own .. => by simp [closed] at hc
 | .ptr .. => by simp [closed] at hc
 | .lptr .. => by simp [closed] at hc
 | .aptr .. => by simp [closed] at hc
 | .clo .. => by simp [closed] at hc
 | .agg cs vs hl => .agg cs vs (closedL_kept hs (by simp [closed] at hc; exact hc.1) hl)
 | .tup .. => by simp [closed] at hc
theorem closedL_kept {c c' : Ctx} (hs : ∀ b, c.Sh b → c'.Sh b ∧ c'.w.heap[b]? = c.w.heap[b]?) {ts : List T} {vs : List Value} (hc : closedL ts = true) : RepL c ts vs → RepL c' ts vs
 | .nil => .nil
 | .cons x v xs vs hx hr => .cons x v xs vs (closed_kept hs (by simp [closedL] at hc; exact hc.1) hx) (closedL_kept hs (by simp [closedL] at hc; exact hc.2) hr)
theorem repE_kept {c c' : Ctx} (hs : ∀ b, c.Sh b → c'.Sh b ∧ c'.w.heap[b]? = c.w.heap[b]?) {sz : Nat} {ts : List T} {vs : List Value} : RepE c sz ts vs → RepE c' sz ts vs
 | .nil sz => .nil sz
 | .cons sz x v xs ws hx hl hcl hr => .cons sz x v xs ws (closed_kept hs hcl hx) hl hcl (repE_kept hs hr)
end
theorem RepL.length {c : Ctx} : ∀ {ts : List T} {vs : List Value}, RepL c ts vs → vs.length = ts.length
 | _, _, .nil => rfl
 | _, _, .cons x v xs vs _ hr => by simp [RepL.length hr]
theorem RepL.get {c : Ctx} : ∀ {ts : List T} {vs : List Value}, RepL c ts vs → ∀ {i : Nat} {t : T}, ts[i]? = some t → ∃ v, vs[i]? = some v ∧ Rep c t v
 | _, _, .nil, i, t, h => by simp at h
 | _, _, .cons x v xs vs hx hr, 0, t, h => by simp at h; subst h; exact ⟨v, by simp, hx⟩
 | _, _, .cons x v xs vs hx hr, i + 1, t, h => by simpa using hr.get (by simpa using h)
theorem RepL.append {c : Ctx} : ∀ {ts : List T} {vs : List Value}, RepL c ts vs → ∀ {us : List T} {ws : List Value}, RepL c us ws → RepL c (ts ++ us) (vs ++ ws)
 | _, _, .nil, _, _, h => by simpa using h
 | _, _, .cons x v xs vs hx hr, _, _, h => .cons x v _ _ hx (hr.append h)
theorem RepL.drop {c : Ctx} : ∀ (n : Nat) {ts : List T} {vs : List Value}, RepL c ts vs → RepL c (ts.drop n) (vs.drop n)
 | 0, _, _, h => by simpa using h
 | n + 1, _, _, .nil => by simpa using RepL.nil
 | n + 1, _, _, .cons x v xs vs hx hr => by simpa using RepL.drop n hr
theorem RepL.take {c : Ctx} : ∀ (n : Nat) {ts : List T} {vs : List Value}, RepL c ts vs → RepL c (ts.take n) (vs.take n)
 | 0, _, _, h => by simpa using RepL.nil
 | n + 1, _, _, .nil => by simpa using RepL.nil
 | n + 1, _, _, .cons x v xs vs hx hr => by simpa using RepL.cons x v _ _ hx (RepL.take n hr)
theorem one_cell {c : Ctx} {t : T} {v : Value} (h : Rep c t v) (ho : one t = true) : v.oneCell' = true ∧ v.cells = #[v] := by
 cases h <;> simp [one, Value.oneCell', Value.cells] at *
 case sc hv => exact ⟨isSc_one hv, isSc_cells hv⟩
theorem RepL.ones {c : Ctx} : ∀ {ts : List T} {vs : List Value}, RepL c ts vs → ts.all one = true → ∀ v ∈ vs, v.oneCell' = true
 | _, _, .nil, _, v, h => by cases h
 | _, _, .cons x v xs vs hx hr, ho, u, h => by
  simp only [List.all_cons, Bool.and_eq_true] at ho
  rcases List.mem_cons.1 h with rfl | h
  ·exact (one_cell hx ho.1).1
  ·exact hr.ones ho.2 u h
theorem Rep.cells {c : Ctx} {t : T} {v : Value} (h : Rep c t v) (ho : t.cells.all one = true) : RepL c t.cells v.cells.toList := by
 cases h with
 | agg cs vs hl => simpa [T.cells, Value.cells] using hl
 | undef v => simp [T.cells, one] at ho
 | tup cs vs hl => simp [T.cells, one] at ho
 | sc v hv => rw [isSc_cells hv]; exact .cons _ _ _ _ (.sc v hv) .nil
 | lst0 sz A cap => exact .cons _ _ _ _ (.lst0 sz A cap) .nil
 | lst sz xs b o cap vs a b' c' d => exact .cons _ _ _ _ (.lst sz xs b o cap vs a b' c' d) .nil
 | own l g off len A cap h => exact .cons _ _ _ _ (.own l g off len A cap h) .nil
 | ptr l off h => exact .cons _ _ _ _ (.ptr l off h) .nil
 | lptr sz xs i off b o vs a b' c' => exact .cons _ _ _ _ (.lptr sz xs i off b o vs a b' c') .nil
 | aptr l g i off p h => exact .cons _ _ _ _ (.aptr l g i off p h) .nil
 | clo f cs vs h hf => exact .cons _ _ _ _ (.clo f cs vs h hf) .nil
 | mth f cs vs h => exact .cons _ _ _ _ (.mth f cs vs h) .nil
theorem closed_ones {t : T} (h : closed t = true) : t.cells.all one = true := by
 cases t <;> simp [closed, T.cells, one] at *
 case agg cs => exact fun x hx => h.2 x hx
theorem RepE.length {c : Ctx} : ∀ {sz : Nat} {xs : List T} {vs : List Value}, RepE c sz xs vs → vs.length = xs.length * sz
 | _, _, _, .nil sz => by simp
 | _, _, _, .cons sz x v xs ws hx hl hcl hr => by
  have := (hx.cells (closed_ones hcl)).length
  rw [List.length_append, hr.length, this, hl, List.length_cons, Nat.add_mul, Nat.one_mul, Nat.add_comm]
theorem RepE.ones {c : Ctx} : ∀ {sz : Nat} {xs : List T} {vs : List Value}, RepE c sz xs vs → ∀ v ∈ vs, v.oneCell' = true
 | _, _, _, .nil sz, v, h => by cases h
 | _, _, _, .cons sz x v xs ws hx hl hcl hr, u, h => by
  rcases List.mem_append.1 h with h | h
  ·exact (hx.cells (closed_ones hcl)).ones (closed_ones hcl) u h
  ·exact hr.ones u h
theorem RepE.append {c : Ctx} : ∀ {sz : Nat} {xs : List T} {vs : List Value}, RepE c sz xs vs → ∀ {ys : List T} {ws : List Value}, RepE c sz ys ws → RepE c sz (xs ++ ys) (vs ++ ws)
 | _, _, _, .nil sz, _, _, h => by simpa using h
 | _, _, _, .cons sz x v xs ws hx hl hcl hr, _, _, h => by
  rw [List.append_assoc]
  exact .cons sz x v _ _ hx hl hcl (hr.append h)
theorem RepE.drop {c : Ctx} : ∀ (n : Nat) {sz : Nat} {xs : List T} {vs : List Value}, RepE c sz xs vs → RepE c sz (xs.drop n) (vs.drop (n * sz))
 | 0, _, _, _, h => by simpa using h
 | n + 1, _, _, _, .nil sz => by simpa using RepE.nil sz
 | n + 1, _, _, _, .cons sz x v xs ws hx hl hcl hr => by
  have h1 : v.cells.toList.length = sz := (hx.cells (closed_ones hcl)).length.trans hl
  have h2 : (v.cells.toList ++ ws).drop ((n + 1) * sz) = ws.drop (n * sz) := by
   rw [Nat.add_mul, Nat.one_mul, Nat.add_comm, ← List.drop_drop, List.drop_left' h1]
  rw [h2]
  exact RepE.drop n hr
theorem RepE.take {c : Ctx} : ∀ (n : Nat) {sz : Nat} {xs : List T} {vs : List Value}, RepE c sz xs vs → RepE c sz (xs.take n) (vs.take (n * sz))
 | 0, _, _, _, h => by simpa using RepE.nil _
 | n + 1, _, _, _, .nil sz => by simpa using RepE.nil sz
 | n + 1, _, _, _, .cons sz x v xs ws hx hl hcl hr => by
  have h1 : v.cells.toList.length = sz := (hx.cells (closed_ones hcl)).length.trans hl
  have h2 : (v.cells.toList ++ ws).take ((n + 1) * sz) = v.cells.toList ++ ws.take (n * sz) := by
   rw [Nat.add_mul, Nat.one_mul, List.take_append, List.take_of_length_le (by omega), h1, Nat.add_sub_cancel]
  rw [h2]
  exact .cons sz x v _ _ hx hl hcl (RepE.take n hr)
theorem RepE.get {c : Ctx} : ∀ {sz : Nat} {xs : List T} {vs : List Value}, RepE c sz xs vs → ∀ {i : Nat} {x : T}, xs[i]? = some x →
  closed x = true ∧ x.cells.length = sz ∧ ∃ v, Rep c x v ∧ v.cells.toList = (vs.drop (i * sz)).take sz
 | _, _, _, .nil sz, i, x, h => by simp at h
 | _, _, _, .cons sz y v xs ws hx hl hcl hr, 0, x, h => by
  simp at h; subst h
  have h1 : v.cells.toList.length = sz := (hx.cells (closed_ones hcl)).length.trans hl
  exact ⟨hcl, hl, v, hx, by rw [Nat.zero_mul, List.drop_zero, List.take_left' h1]⟩
 | _, _, _, .cons sz y v xs ws hx hl hcl hr, i + 1, x, h => by
  have h1 : v.cells.toList.length = sz := (hx.cells (closed_ones hcl)).length.trans hl
  obtain ⟨a, b, u, hu, he⟩ := hr.get (by simpa using h)
  refine ⟨a, b, u, hu, ?_⟩
  rw [Nat.add_mul, Nat.one_mul, Nat.add_comm (i * sz), ← List.drop_drop, List.drop_left' h1]
  exact he
theorem RepE.set {c : Ctx} {sz : Nat} {xs : List T} {vs : List Value} (h : RepE c sz xs vs) {i : Nat} (hi : i < xs.length) {y : T} {u : Value} (hy : Rep c y u) (hl : y.cells.length = sz)
  (hcl : closed y = true) : RepE c sz (xs.set i y) (vs.take (i * sz) ++ u.cells.toList ++ vs.drop ((i + 1) * sz)) := by
 rw [List.set_eq_take_append_cons_drop, if_pos hi]
 have h1 := (h.take i).append (.cons sz y u _ _ hy hl hcl (h.drop (i + 1)))
 simpa using h1
def ctxShut (c : Ctx) (ls : List Loc) : Ctx :=
 { c with S := setRo c.S ls, Sh := fun b => c.Sh b ∨ ∃ l, ls.contains l = true ∧ c.D l ∧ (∃ ro g sz e xs, c.S l = some (.arr ro g sz e xs)) ∧ c.β l = b }
theorem setRo_arr {S : Store} {ls : List Loc} {l : Loc} {ro : Bool} {g sz : Nat} {e : TypeId} {xs : List T} (h : S l = some (.arr ro g sz e xs)) : setRo S ls l = some (.arr (ro || ls.contains l) g sz e xs) := by
 simp [setRo, h]
theorem setRo_inv {S : Store} {ls : List Loc} {l : Loc} {o : Obj} (h : setRo S ls l = some o) :
  (∃ ro g sz e xs, S l = some (.arr ro g sz e xs) ∧ o = .arr (ro || ls.contains l) g sz e xs) ∨ (S l = some o ∧ ∀ ro g sz e xs, o ≠ .arr ro g sz e xs) := by
 unfold setRo at h
 cases hS : S l with
 | none => simp [hS] at h
 | some o' =>
  cases o' with
  | arr ro g sz e xs => simp only [hS, Option.some.injEq] at h; exact .inl ⟨ro, g, sz, e, xs, rfl, h.symm⟩
  | box bt cs => simp only [hS, Option.some.injEq] at h; subst h; exact .inr ⟨rfl, by simp⟩
  | gone => simp only [hS, Option.some.injEq] at h; subst h; exact .inr ⟨rfl, by simp⟩
theorem ctxShut_kept (c : Ctx) (ls : List Loc) : Kept c (ctxShut c ls) := by
 refine ⟨fun b hb => ⟨.inl hb, rfl⟩, fun l hl => ⟨⟨hl.1, ?_⟩, rfl⟩, fun l ro g sz e xs hS => .inr ⟨_, g, sz, e, xs, setRo_arr hS, Nat.le_refl _, fun _ => ⟨rfl, rfl, rfl, fun hD => ⟨hD, rfl, fun cur fz h => ⟨cur, fz, h, rfl⟩⟩⟩⟩, fun l hS => ?_⟩
 ·obtain ⟨bt, cs, h⟩ := hl.2
  exact ⟨bt, cs, by simp [ctxShut, setRo, h]⟩
 ·simp [ctxShut, setRo, hS]
theorem ctxShut_mut {c : Ctx} {ls : List Loc} {l : Loc} (h : Mut (ctxShut c ls) l) : Mut c l ∧ (ls.contains l = true → ∀ ro g sz e xs, c.S l ≠ some (.arr ro g sz e xs)) := by
 unfold Mut at h
 cases hS : (ctxShut c ls).S l with
 | none => simp [hS] at h
 | some o =>
  rcases setRo_inv hS with ⟨ro, g, sz, e, xs, h1, rfl⟩ | ⟨h1, h2⟩
  ·simp only [hS, Bool.or_eq_false_iff] at h
   exact ⟨by simp [Mut, h1, h.1], fun hc => by rw [h.2] at hc; cases hc⟩
  ·refine ⟨?_, fun _ ro g sz e xs h3 => ?_⟩
   ·cases o with
    | box bt cs => simp [Mut, h1]
    | arr ro g sz e xs => exact absurd rfl (h2 _ _ _ _ _)
    | gone => simp [hS] at h
   ·rw [h1] at h3; exact h2 _ _ _ _ _ (Option.some.inj h3)
theorem ctxShut_rel {c : Ctx} (hR : Rel c) (ls : List Loc) : Rel (ctxShut c ls) := by
 have hk := ctxShut_kept c ls
 refine ⟨fun l bt cs hD hS => ?_, fun l ro g sz e xs hD hS => ?_, fun l hD hm => ?_, fun l l' hD hD' hm hm' hβ => hR.inj l l' hD hD' (ctxShut_mut hm).1 (ctxShut_mut hm').1 hβ, fun b hb => ?_, fun l hD hS => ?_⟩
 ·rcases setRo_inv hS with ⟨ro, g, sz, e, xs, h1, h2⟩ | ⟨h1, h2⟩
  ·cases h2
  ·obtain ⟨a, vs, h3, h4⟩ := hR.box l bt cs hD h1
   exact ⟨a, vs, h3, h4.kept hk⟩
 ·rcases setRo_inv hS with ⟨ro', g', sz', e', xs', h1, h2⟩ | ⟨h1, h2⟩
  ·injection h2 with a1 a2 a3 a4 a5
   subst a1 a2 a3 a4 a5
   obtain ⟨cur, fz, vs, h3, h4, h5, h6, h7⟩ := hR.arr l ro' _ _ _ _ hD h1
   refine ⟨cur, fz, vs, h3, fun h => h4 (by simp at h; exact h.1), fun h => ?_, h6.kept hk, h7⟩
   simp only [Bool.or_eq_true] at h
   rcases h with h | h
   ·exact .inl (h5 h)
   ·exact .inr ⟨l, h, hD, ⟨_, _, _, _, _, h1⟩, rfl⟩
  ·exact absurd rfl (h2 _ _ _ _ _)
 ·rintro (h | ⟨l', hl', hD', ⟨ro, g, sz, e, xs, hS'⟩, hβ⟩)
  ·exact hR.nsh l hD (ctxShut_mut hm).1 h
  ·cases ro with
   | true =>
    obtain ⟨_, _, _, _, _, h5, _⟩ := hR.arr l' _ _ _ _ _ hD' hS'
    exact hR.nsh l hD (ctxShut_mut hm).1 (by rw [← show c.β l' = c.β l from hβ]; exact h5 rfl)
   | false =>
    have := hR.inj l' l hD' hD (by simp [Mut, hS']) (ctxShut_mut hm).1 hβ
    subst this
    exact (ctxShut_mut hm).2 hl' _ _ _ _ _ hS'
 ·rcases hb with hb | ⟨l', _, hD', ⟨ro, g, sz, e, xs, hS'⟩, rfl⟩
  ·exact hR.lt b hb
  ·exact hR.liveLt hD' hS' (by simp)
 ·apply hR.dom l hD
  simp only [ctxShut, setRo] at hS
  cases h : c.S l with
  | none => rfl
  | some o => cases o <;> simp [h] at hS
theorem ctxShut_fr {c : Ctx} (hR : Rel c) (ls : List Loc) : Fr c (ctxShut c ls) := by
 refine ⟨rfl, rfl, rfl, Nat.le_refl _, fun _ _ _ => rfl, fun l hD hm => .inl ⟨hD, (ctxShut_mut hm).1, rfl⟩, fun b hb => ?_⟩
 rcases hb with hb | ⟨l, _, hD, ⟨ro, g, sz, e, xs, hS⟩, rfl⟩
 ·exact .inl hb
 ·cases ro with
  | true => obtain ⟨_, _, _, _, _, h, _⟩ := hR.arr l true g sz e xs hD hS; exact .inl (h rfl)
  | false => exact .inr (.inr ⟨l, hD, by simp [Mut, hS], rfl⟩)
def SnapOk (c : Ctx) (ls : List Loc) : Prop := ∀ l ∈ ls, c.D l ∧ ∃ ro g sz e xs, c.S l = some (.arr ro g sz e xs)
mutual
theorem snap_rep {c c' : Ctx} (hR : Rel c) (hk : Kept c c') (hw : c'.w = c.w) : ∀ (t : T) {u : T} {ls : List Loc} {v : Value}, snap c.S t = some (u, ls) → Rep c t v →
  SnapOk c ls ∧ ((∀ l ∈ ls, c'.Sh (c.β l)) → Rep c' u v)
 | .own l g off len, u, ls, v, h, hv => by
  cases hv with
  | own _ _ _ _ A cap ho =>
   simp only [snap] at h
   cases hS : c.S l with
   | none => simp [hS] at h
   | some o =>
    cases o with
    | box bt cs => simp [hS] at h
    | gone => simp [hS] at h
    | arr ro g' sz e xs =>
     simp only [hS] at h
     split at h
     ·rename_i hg
      obtain ⟨rfl, hlen⟩ := hg
      simp only [Option.some.injEq, Prod.mk.injEq] at h
      obtain ⟨rfl, rfl⟩ := h
      simp only [OwnOk, hS] at ho
      obtain ⟨hD, h1, h2, h3⟩ := ho.2 trivial
      refine ⟨fun m hm => ?_, fun hsh => ?_⟩
      ·simp at hm; subst hm; exact ⟨hD, _, _, _, _, _, hS⟩
      ·by_cases h0 : len = 0
       ·subst h0
        simp only [List.take_zero]
        exact .lst0 sz A cap
       ·obtain ⟨cur, fz, rfl, hcur, hsz⟩ := h3.resolve_left (by omega)
        obtain ⟨cur', fz', vs, hc1, _, _, hE, htk⟩ := hR.arr l ro g sz e xs hD hS
        rw [hcur] at hc1
        simp only [Option.some.injEq, Obj.cells.injEq] at hc1
        obtain ⟨rfl, _, rfl⟩ := hc1
        have hL : ((xs.drop off).take len).length = len := by simp; omega
        have hE' := ((hE.drop off).take len).kept hk
        have := Rep.lst sz _ (c.β l) (off * sz) cap _ (hsh l (by simp)) hE' (fun i v hi => ?_) (by omega)
        ·rw [hL] at this; exact this
        ·rw [hw]
         simp only [World.cell?, hcur]
         rw [List.getElem?_take] at hi
         split at hi
         ·rw [List.getElem?_drop, ← htk, List.getElem?_take] at hi
          split at hi
          ·simpa using hi
          ·cases hi
         ·cases hi
     ·cases h
 | .agg cs, u, ls, v, h, hv => by
  cases hv with
  | agg _ vs hl =>
   simp only [snap] at h
   split at h
   ·rename_i ds ls' hd
    simp only [Option.some.injEq, Prod.mk.injEq] at h
    obtain ⟨rfl, rfl⟩ := h
    obtain ⟨h1, h2⟩ := snapL_rep hR hk hw cs hd hl
    exact ⟨h1, fun hsh => .agg _ _ (h2 hsh)⟩
   ·cases h
 | .undef, u, ls, v, h, hv => by simp only [snap, Option.some.injEq, Prod.mk.injEq] at h; obtain ⟨rfl, rfl⟩ := h; exact ⟨(by intro l h; cases h), fun _ => hv.kept hk⟩
 | .sc x, u, ls, v, h, hv => by simp only [snap, Option.some.injEq, Prod.mk.injEq] at h; obtain ⟨rfl, rfl⟩ := h; exact ⟨(by intro l h; cases h), fun _ => hv.kept hk⟩
 | .lst .., u, ls, v, h, hv => by simp only [snap, Option.some.injEq, Prod.mk.injEq] at h; obtain ⟨rfl, rfl⟩ := h; exact ⟨(by intro l h; cases h), fun _ => hv.kept hk⟩
 | .ptr .., u, ls, v, h, hv => by simp only [snap, Option.some.injEq, Prod.mk.injEq] at h; obtain ⟨rfl, rfl⟩ := h; exact ⟨(by intro l h; cases h), fun _ => hv.kept hk⟩
 | .lptr .., u, ls, v, h, hv => by simp only [snap, Option.some.injEq, Prod.mk.injEq] at h; obtain ⟨rfl, rfl⟩ := h; exact ⟨(by intro l h; cases h), fun _ => hv.kept hk⟩
 | .aptr .., u, ls, v, h, hv => by simp only [snap, Option.some.injEq, Prod.mk.injEq] at h; obtain ⟨rfl, rfl⟩ := h; exact ⟨(by intro l h; cases h), fun _ => hv.kept hk⟩
 | .clo .., u, ls, v, h, hv => by simp only [snap, Option.some.injEq, Prod.mk.injEq] at h; obtain ⟨rfl, rfl⟩ := h; exact ⟨(by intro l h; cases h), fun _ => hv.kept hk⟩
 | .tup .., u, ls, v, h, hv => by simp only [snap, Option.some.injEq, Prod.mk.injEq] at h; obtain ⟨rfl, rfl⟩ := h; exact ⟨(by intro l h; cases h), fun _ => hv.kept hk⟩
theorem snapL_rep {c c' : Ctx} (hR : Rel c) (hk : Kept c c') (hw : c'.w = c.w) : ∀ (ts : List T) {us : List T} {ls : List Loc} {vs : List Value}, snapL c.S ts = some (us, ls) → RepL c ts vs →
  SnapOk c ls ∧ ((∀ l ∈ ls, c'.Sh (c.β l)) → RepL c' us vs)
 | [], us, ls, vs, h, hv => by
  simp only [snapL, Option.some.injEq, Prod.mk.injEq] at h
  obtain ⟨rfl, rfl⟩ := h
  cases hv
  exact ⟨(by intro l h; cases h), fun _ => .nil⟩
 | x :: xs, us, ls, vs, h, hv => by
  simp only [snapL] at h
  split at h
  ·rename_i y l ys ls' h1 h2
   simp only [Option.some.injEq, Prod.mk.injEq] at h
   obtain ⟨rfl, rfl⟩ := h
   cases hv with
   | cons _ v _ vs hx hr =>
    obtain ⟨a1, a2⟩ := snap_rep hR hk hw x h1 hx
    obtain ⟨b1, b2⟩ := snapL_rep hR hk hw xs h2 hr
    refine ⟨fun m hm => ?_, fun hsh => .cons _ _ _ _ (a2 fun m hm => hsh m (List.mem_append_left _ hm)) (b2 fun m hm => hsh m (List.mem_append_right _ hm))⟩
    rcases List.mem_append.1 hm with hm | hm
    ·exact a1 m hm
    ·exact b1 m hm
  ·cases h
end
theorem ctxShut_sh {c : Ctx} {ls : List Loc} (h : SnapOk c ls) : ∀ l ∈ ls, (ctxShut c ls).Sh (c.β l) :=
 fun l hl => .inr ⟨l, by simpa using hl, (h l hl).1, (h l hl).2, rfl⟩
theorem freeze_rep {c : Ctx} (hR : Rel c) {t u : T} {S' : Store} {v : Value} (h : freeze c.S t = some (u, S')) (hv : Rep c t v) :
  closed u = true ∧ ∃ ls, S' = setRo c.S ls ∧ Rep (ctxShut c ls) u v := by
 unfold freeze at h
 split at h
 ·rename_i u' ls hs
  split at h
  ·rename_i hc
   simp only [Option.some.injEq, Prod.mk.injEq] at h
   obtain ⟨rfl, rfl⟩ := h
   obtain ⟨h1, h2⟩ := snap_rep hR (ctxShut_kept c ls) rfl t hs hv
   exact ⟨hc, ls, rfl, h2 (ctxShut_sh h1)⟩
  ·cases h
 ·cases h
def SR (c : Ctx) (n : Nat) (s : Slots) (a : Act) : Prop := a.tmps.size = n ∧ a.defers = [] ∧ ∀ d, Rep c (get s d) (a.tmps.getD d undef)
theorem SR.kept {c c' : Ctx} {n : Nat} {s : Slots} {a : Act} (hk : Kept c c') (h : SR c n s a) : SR c' n s a := ⟨h.1, h.2.1, fun d => (h.2.2 d).kept hk⟩
theorem get_cons (s : Slots) (d d' : Nat) (t : T) : get ((d, t) :: s) d' = if d' = d then t else get s d' := by
 unfold get
 simp only [List.lookup_cons]
 by_cases h : d' = d
 ·simp [h]
 ·simp [h, beq_eq_false_iff_ne.2 h]
theorem SR.put {c : Ctx} {n : Nat} {s s' : Slots} {a : Act} {d : Option Tmp} {t : T} {v : Value} (h : SR c n s a) (hp : putT n s d t = some s') (hv : Rep c t v) : SR c n s' (a.put d v) := by
 cases d with
 | none =>
  simp only [putT, Option.some.injEq] at hp
  subst hp
  exact h
 | some d =>
  simp only [putT] at hp
  split at hp
  ·rename_i hd
   simp only [Option.some.injEq] at hp
   subst hp
   refine ⟨by simp [Act.put, h.1], h.2.1, fun d' => ?_⟩
   rw [get_cons]
   by_cases e : d' = d
   ·subst e
    simp only [Act.put, if_true]
    have : d' < a.tmps.size := by rw [h.1]; exact hd
    rw [Array.getD_eq_getD_getElem?, Array.getElem?_setIfInBounds_self_of_lt this]
    exact hv
   ·simp only [Act.put, e, if_false]
    have := h.2.2 d'
    rw [Array.getD_eq_getD_getElem?] at this ⊢
    rw [Array.getElem?_setIfInBounds_ne (Ne.symm e)]
    exact this
  ·cases hp
theorem ev_rep {c : Ctx} {n : Nat} {s : Slots} {a : Act} (h : SR c n s a) {x : Operand} {t : T} (hx : ev s x = some t) : Rep c t (a.eval x) := by
 cases x with
 | tmp d => simp only [ev, Option.some.injEq] at hx; subst hx; exact h.2.2 d
 | const v =>
  simp only [ev, evV] at hx
  split at hx
  ·rename_i hv
   simp only [Option.some.injEq] at hx
   subst hx
   exact .sc v hv
  ·cases hx
 | func f => simp only [ev, Option.some.injEq] at hx; subst hx; exact .sc _ rfl
 | global g => simp [ev] at hx
theorem evL_rep {c : Ctx} {n : Nat} {s : Slots} {a : Act} (h : SR c n s a) : ∀ {xs : List Operand} {ts : List T}, evL s xs = some ts → RepL c ts (xs.map a.eval)
 | [], ts, hx => by simp only [evL, Option.some.injEq] at hx; subst hx; exact .nil
 | x :: xs, ts, hx => by
  simp only [evL] at hx
  split at hx
  ·rename_i t l h1 h2
   simp only [Option.some.injEq] at hx
   subst hx
   exact .cons _ _ _ _ (ev_rep h h1) (evL_rep h h2)
  ·cases hx
theorem Rep.scv {c : Ctx} {v x : Value} (h : Rep c (.sc v) x) : x = v := by cases h; rfl
theorem scV_eq {c : Ctx} {n : Nat} {s : Slots} {a : Act} (h : SR c n s a) {x : Operand} (hx : isScO s x = true) : scV s x = a.eval x := by
 unfold isScO at hx
 unfold scV
 split at hx
 ·rename_i v hv
  exact (ev_rep h hv).scv.symm
 ·cases hx
theorem pureRun_run {α : Type} (P : Program) : ∀ (m : Sem α) {x : α}, pureRun P m = some x → ∀ w, m.run P w = .ok x w
 | .pure a, x, h, w => by simp only [pureRun, Option.some.injEq] at h; subst h; rfl
 | .program k, x, h, w => by simp only [pureRun] at h; simpa [Sem.run] using pureRun_run P (k P) h w
 | .mark _ k, x, h, w => by simp only [pureRun] at h; simpa [Sem.run] using pureRun_run P k h w
 | .load .., x, h, w => by simp [pureRun] at h
 | .store .., x, h, w => by simp [pureRun] at h
 | .new .., x, h, w => by simp [pureRun] at h
 | .shape .., x, h, w => by simp [pureRun] at h
 | .freeze .., x, h, w => by simp [pureRun] at h
 | .frozen .., x, h, w => by simp [pureRun] at h
 | .getObj .., x, h, w => by simp [pureRun] at h
 | .setObj .., x, h, w => by simp [pureRun] at h
 | .choose .., x, h, w => by simp [pureRun] at h
 | .sys .., x, h, w => by simp [pureRun] at h
 | .halt .., x, h, w => by simp [pureRun] at h
theorem execOp_congr {ρ ρ' : Operand → Value} (o : Oper) (hp : plainOp o.op = true) (h : ∀ x ∈ o.op.operands, ρ x = ρ' x) : execOp ρ o = execOp ρ' o := by
 obtain ⟨dst, op, type, pos, after, guard⟩ := o
 cases op <;> simp only [plainOp, Bool.false_eq_true] at hp
 case binOp op xt x y yt =>
  have h1 := h x (by simp [Op.operands]); have h2 := h y (by simp [Op.operands])
  simp only [execOp, h1, h2]
 case unOp op xt x => have h1 := h x (by simp [Op.operands]); simp only [execOp, h1]
 case convert s d x => have h1 := h x (by simp [Op.operands]); simp only [execOp, h1]
 case index xt x i =>
  have h1 := h x (by simp [Op.operands]); have h2 := h i (by simp [Op.operands])
  simp only [execOp, h1, h2]
 case slice xt x lo hi mx =>
  have h1 := h x (by simp [Op.operands])
  have h2 : lo.map ρ = lo.map ρ' := by cases lo with | none => rfl | some y => simp [h y (by simp [Op.operands])]
  have h3 : hi.map ρ = hi.map ρ' := by cases hi with | none => rfl | some y => simp [h y (by simp [Op.operands])]
  have h4 : mx.map ρ = mx.map ρ' := by cases mx with | none => rfl | some y => simp [h y (by simp [Op.operands])]
  simp only [execOp, h1, h2, h3, h4]
 case call cl =>
  obtain ⟨callee, args, at_⟩ := cl
  cases callee with
  | value f => simp [plainOp] at hp
  | invoke r m => simp [plainOp] at hp
  | builtin b =>
   have hm : args.map ρ = args.map ρ' := by
    apply Array.map_congr_left
    intro x hx
    exact h x (by simp [Op.operands, Call.operands, hx])
   simp only [execOp, resolve, hm]
theorem ruleA_run {P : Program} {o : Oper} {c : Ctx} {n : Nat} {s : Slots} {a : Act} (hs : SR c n s a) {t : T} (h : ruleA P o s = some t) :
  ∃ v, t = .sc v ∧ isSc v = true ∧ ∀ w, (execOp a.eval o).run P w = .ok (.value v) w := by
 unfold ruleA at h
 split at h
 ·rename_i hp
  simp only [Bool.and_eq_true, Array.all_eq_true_iff_forall_mem] at hp
  split at h
  ·rename_i v hr
   split at h
   ·rename_i hv
    simp only [Option.some.injEq] at h
    refine ⟨v, h.symm, hv, fun w => ?_⟩
    rw [← execOp_congr o hp.1 (fun x hx => scV_eq hs (hp.2 x hx))]
    exact pureRun_run P _ hr w
   ·cases h
  ·cases h
 ·cases h
structure Stp (L : Nat) (c : Ctx) (S' : Store) (t : T) (v : Value) (c' : Ctx) : Prop where
 rel : Rel c'
 kept : Kept c c'
 fr : Fr c c'
 S : c'.S = S'
 rep : Rep c' t v
 lev : ∀ l, c'.D l → l.1 ≤ L
 new : ∀ l, c'.D l → c.D l ∨ l.1 = L ∨ 1 ≤ l.1
 full : (∀ l, c.S l ≠ none → c.D l) → ∀ l, c'.S l ≠ none → c'.D l
theorem Stp.same {L : Nat} {c : Ctx} (hR : Rel c) (hL : ∀ l, c.D l → l.1 ≤ L) {t : T} {v : Value} (h : Rep c t v) : Stp L c c.S t v c :=
 ⟨hR, .refl c, .refl c, rfl, h, hL, fun _ h => .inl h, fun h => h⟩
theorem isAgg_run {P : Program} {t : TypeId} {b : Bool} (h : isAggT P t = some b) (w : World) : (isAgg t).run P w = .ok b w := by
 unfold isAggT at h
 unfold isAgg
 split at h
 ·rename_i fs hu
  simp only [Option.some.injEq] at h; subst h
  simp [Sem.run_bind, run_underlying hu]
 ·rename_i n e hu
  simp only [Option.some.injEq] at h; subst h
  simp [Sem.run_bind, run_underlying hu]
 ·rename_i d h1 h2 hu
  simp only [Option.some.injEq] at h; subst h
  simp only [Sem.run_bind, run_underlying hu, Result.andThen]
  cases d <;> simp_all
 ·cases h
theorem szOf_info {P : Program} {t : TypeId} {n : Nat} (h : szOf P t = some n) : ∃ i, P.info? t = some i ∧ i.size = n := by
 unfold szOf at h
 cases hi : P.info? t with
 | none => simp [hi] at h
 | some i => exact ⟨i, rfl, by simpa [hi] using h⟩
theorem sizeOf_run {P : Program} {t : TypeId} {n : Nat} (h : szOf P t = some n) (w : World) : (sizeOf t).run P w = .ok n w := by
 obtain ⟨i, hi, rfl⟩ := szOf_info h
 simp [sizeOf, typeInfo, hi]
theorem add_addr (b o i : Nat) : (⟨b, o, none⟩ : Addr).add i = ⟨b, o + i, none⟩ := by
 unfold Addr.add
 split <;> simp_all
theorem load_run {P : Program} {w : World} {c : Ctx} {t : TypeId} {b o : Nat} {cs : List T} {us : List Value} {ag : Bool} {n off : Nat} {x : T}
  (ha : isAggT P t = some ag) (hn : szOf P t = some n) (hl : RepL c cs us) (hc : ∀ i u, us[i]? = some u → w.cell? ⟨b, o + i, none⟩ = some u) (hx : readAt ag n cs off = some x) :
  ∃ v, (Instr.loadAt t (.pointer (some ⟨b, o + off, none⟩))).run P w = .ok v w ∧ Rep c x v := by
 unfold readAt at hx
 cases ag with
 | true =>
  simp only [if_true] at hx
  split at hx
  ·rename_i hlen
   simp only [Option.some.injEq] at hx
   subst hx
   have hr := (hl.drop off).take n
   have hul : ((us.drop off).take n).length = n := hr.length.trans hlen
   have hld := run_loadCells_list (P := P) (w := w) ⟨b, o + off, none⟩ ((us.drop off).take n) (fun j v hj => by
    rw [add_addr]
    rw [List.getElem?_take] at hj
    split at hj
    ·rw [List.getElem?_drop] at hj
     have := hc (off + j) v hj
     rw [← Nat.add_assoc] at this
     exact this
    ·cases hj)
   rw [hul] at hld
   refine ⟨_, ?_, .agg _ _ hr⟩
   simp [Instr.loadAt, Instr.sureAddr, loadVar, Sem.run_bind, isAgg_run ha, sizeOf_run hn, hld]
  ·cases hx
 | false =>
  simp only [Bool.false_eq_true, if_false] at hx
  obtain ⟨v, hv, hr⟩ := hl.get hx
  refine ⟨v, ?_, hr⟩
  have := hc off v hv
  simp [Instr.loadAt, Instr.sureAddr, loadVar, Sem.run_bind, isAgg_run ha, load, Sem.run, this]
theorem cell_at {w : World} {b : Nat} {cur : Array Value} {e : TypeId} {fz : Nat × Nat} (h : w.heap[b]? = some (.cells cur e fz)) (i : Nat) : w.cell? ⟨b, i, none⟩ = cur[i]? := by
 simp [World.cell?, h]
theorem take_get {cur : List Value} {vs : List Value} (h : cur.take vs.length = vs) {i : Nat} {v : Value} (hi : vs[i]? = some v) : cur[i]? = some v := by
 rw [← h, List.getElem?_take] at hi
 split at hi
 ·exact hi
 ·cases hi
theorem RepE.cellsAt {c : Ctx} {sz : Nat} {xs : List T} {vs : List Value} (h : RepE c sz xs vs) {i : Nat} {x : T} (hx : xs[i]? = some x) :
  ∃ us, RepL c x.cells us ∧ ∀ j u, us[j]? = some u → vs[i * sz + j]? = some u := by
 obtain ⟨hcl, hlen, v, hv, he⟩ := h.get hx
 refine ⟨_, hv.cells (closed_ones hcl), fun j u hj => ?_⟩
 rw [he, List.getElem?_take] at hj
 split at hj
 ·rwa [List.getElem?_drop] at hj
 ·cases hj
theorem loadT_sound {P : Program} {L : Nat} {c : Ctx} (hR : Rel c) (hL : ∀ l, c.D l → l.1 ≤ L) {t : TypeId} {a : T} {av : Value} {re : Res} (h : loadT P c.S t a = some re) (ha : Rep c a av) :
  ∃ v, (Instr.loadAt t av).run P c.w = .ok v c.w ∧ Stp L c re.S re.t v c := by
 unfold loadT at h
 split at h
 ·rename_i ag n hag hn
  split at h
  ·rename_i l off
   split at h
   ·rename_i bt cs hS
    cases hx : readAt ag n cs off with
    | none => simp [hx] at h
    | some x =>
     simp only [hx, Option.map_some, Option.some.injEq] at h
     subst h
     cases ha with
     | ptr _ _ hb =>
      obtain ⟨_, vs, hw, hrl⟩ := hR.box l bt cs hb.1 hS
      obtain ⟨v, hv, hr⟩ := load_run (w := c.w) (b := c.β l) (o := 0) hag hn hrl (fun i u hi => by rw [cell_at hw]; simpa using hi) hx
      rw [Nat.zero_add] at hv
      exact ⟨v, hv, .same hR hL hr⟩
   ·cases h
  ·rename_i sz xs i off
   split at h
   ·rename_i x hxi
    cases hx : readAt ag n x.cells off with
    | none => simp [hx] at h
    | some y =>
     simp only [hx, Option.map_some, Option.some.injEq] at h
     subst h
     cases ha with
     | lptr _ _ _ _ b o vs hsh hE hc =>
      obtain ⟨us, hus, hcell⟩ := hE.cellsAt hxi
      obtain ⟨v, hv, hr⟩ := load_run (w := c.w) (b := b) (o := o + i * sz) hag hn hus (fun j u hj => by
       rw [Nat.add_assoc]; exact hc _ _ (hcell j u hj)) hx
      exact ⟨v, hv, .same hR hL hr⟩
   ·cases h
  ·rename_i l g i off
   split at h
   ·rename_i ro g' sz e xs hS
    split at h
    ·rename_i hg
     subst hg
     split at h
     ·rename_i x hxi
      cases hx : readAt ag n x.cells off with
      | none => simp [hx] at h
      | some y =>
       simp only [hx, Option.map_some, Option.some.injEq] at h
       subst h
       cases ha with
       | aptr _ _ _ _ p ho =>
        simp only [AptrOk, hS] at ho
        obtain ⟨hD, hi, rfl⟩ := ho.2 trivial
        obtain ⟨cur, fz, vs, hw, _, _, hE, htk⟩ := hR.arr l ro _ _ _ _ hD hS
        obtain ⟨us, hus, hcell⟩ := hE.cellsAt hxi
        obtain ⟨v, hv, hr⟩ := load_run (w := c.w) (b := c.β l) (o := i * sz) hag hn hus (fun j u hj => by
         rw [cell_at hw, ← Array.getElem?_toList]; exact take_get htk (hcell j u hj)) hx
        exact ⟨v, hv, .same hR hL hr⟩
     ·cases h
    ·cases h
   ·cases h
  ·cases h
 ·cases h
theorem splice_length {α : Type} (cs : List α) (off : Nat) (ys : List α) (h : off + ys.length ≤ cs.length) : (cs.take off ++ ys ++ cs.drop (off + ys.length)).length = cs.length := by
 simp; omega
theorem RepL.splice {c : Ctx} {cs : List T} {vs : List Value} (h : RepL c cs vs) {ys : List T} {us : List Value} (hy : RepL c ys us) (off : Nat) :
  RepL c (splice cs off ys) (vs.take off ++ us ++ vs.drop (off + us.length)) := by
 unfold TM.splice
 rw [hy.length]
 exact ((h.take off).append hy).append (h.drop _)
theorem lvleL_iff {n : Nat} {ts : List T} : lvleL n ts = true ↔ ∀ t ∈ ts, lvle n t = true := by
 induction ts with
 | nil => simp [lvleL]
 | cons x xs ih => simp [lvleL, ih]
theorem lvle_cells {n : Nat} {t : T} (h : lvle n t = true) : lvleL n t.cells = true := by
 cases t <;> simp [T.cells, lvleL, lvle] at * <;> assumption
theorem splice_all {p : T → Bool} {cs ys : List T} {off : Nat} (h : cs.all p = true) (hy : ys.all p = true) : (splice cs off ys).all p = true := by
 rw [List.all_eq_true] at *
 intro x hx
 simp only [splice, List.mem_append] at hx
 rcases hx with (hx | hx) | hx
 ·exact h x (List.mem_of_mem_take hx)
 ·exact hy x hx
 ·exact h x (List.mem_of_mem_drop hx)
theorem storeCells_run {P : Program} {w : World} {t : TypeId} {b o : Nat} {cur : Array Value} {ty : TypeId} {v : Value} {n : Nat} (hn : szOf P t = some n) (hv : v.cells.size = n)
  (hw : w.heap[b]? = some (.cells cur ty (0, 0))) (hfit : o + n ≤ cur.size) (h1 : ∀ u ∈ v.cells.toList, u.oneCell' = true) :
  (Instr.storeAt t (.pointer (some ⟨b, o, none⟩)) v).run P w = .ok () (w.setRow b (cur.toList.take o ++ v.cells.toList ++ cur.toList.drop (o + n)).toArray) := by
 have hst := run_storeCells_at P b o ty v.cells.toList 0 cur w hw (by simpa [hv] using hfit) h1
 simp only [Nat.add_zero, Array.length_toList, hv] at hst
 simp [Instr.storeAt, Instr.sureAddr, storeVar, Sem.run_bind, sizeOf_run hn, hv, hst]
theorem calm_setRow (w : World) (b : Nat) (cs : Array Value) : Calm w (w.setRow b cs) := ⟨rfl, rfl, rfl⟩
theorem Stp.of_put {L : Nat} {c : Ctx} {l : Loc} {o : Obj} {b : Nat} {w' : World} (hD : c.D l) (hL : ∀ l, c.D l → l.1 ≤ L) (hr : Rel (ctxPut c l o b w')) (hk : Kept c (ctxPut c l o b w'))
  (hf : Fr c (ctxPut c l o b w')) {t : T} {v : Value} (hv : Rep (ctxPut c l o b w') t v) : Stp L c (upd c.S l o) t v (ctxPut c l o b w') :=
 ⟨hr, hk, hf, rfl, hv, hL, fun _ h => .inl h, fun h m hm => by
  by_cases e : m = l
  ·subst e; exact hD
  ·exact h m (by simpa [ctxPut, upd_ne _ _ e] using hm)⟩
theorem setRo_none {S : Store} {ls : List Loc} {l : Loc} : setRo S ls l = none ↔ S l = none := by
 unfold setRo
 cases hS : S l with
 | none => simp
 | some o => cases o <;> simp
theorem Stp.after_shut {L : Nat} {c c' : Ctx} {ls : List Loc} (hR : Rel c) {S' : Store} {t : T} {v : Value} (h : Stp L (ctxShut c ls) S' t v c') : Stp L c S' t v c' :=
 ⟨h.rel, (ctxShut_kept c ls).trans h.kept, (ctxShut_fr hR ls).trans h.fr, h.S, h.rep, h.lev, fun l hl => h.new l hl, fun hf => h.full fun l hl => hf l fun h0 => hl (setRo_none.2 h0)⟩
theorem storeT_sound {P : Program} {L : Nat} {c : Ctx} (hR : Rel c) (hL : ∀ l, c.D l → l.1 ≤ L) {t : TypeId} {a y : T} {av yv : Value} {re : Res} (h : storeT P c.S t a y = some re) (ha : Rep c a av) (hy : Rep c y yv) :
  ∃ c', (Instr.storeAt t av yv).run P c.w = .ok () c'.w ∧ Stp L c re.S re.t undef c' := by
 unfold storeT at h
 split at h
 ·rename_i n hn
  split at h
  ·rename_i hlen
   split at h
   ·rename_i l off
    split at h
    ·rename_i bt cs hS
     split at h
     ·rename_i hc
      obtain ⟨hfit, hlv, hon⟩ := hc
      simp only [Option.some.injEq] at h
      subst h
      cases ha with
      | ptr _ _ hb =>
       obtain ⟨h1, vs, hw, hrl⟩ := hR.box l bt cs hb.1 hS
       have hcl := hy.cells hon
       have hys : yv.cells.toList.length = n := hcl.length.trans hlen
       have hvl := hrl.length
       have hrun := storeCells_run (P := P) (v := yv) hn (by simpa using hys) hw (o := off) (by simp [hvl]; exact hfit) (hcl.ones hon)
       have hp : PutOk c l (.box bt (splice cs off y.cells)) (c.β l) (c.w.setRow (c.β l) (vs.take off ++ yv.cells.toList ++ vs.drop (off + n)).toArray) := .inl ⟨bt, cs, _, hS, rfl, rfl⟩
       have hoth : ∀ x, x < c.w.heap.size → x ≠ c.β l → (c.w.setRow (c.β l) (vs.take off ++ yv.cells.toList ++ vs.drop (off + n)).toArray).heap[x]? = c.w.heap[x]? := fun x _ hx => setRow_other _ _ _ _ hx
       refine ⟨ctxPut c l _ (c.β l) _, hrun, Stp.of_put hb.1 hL (ctxPut_rel hR hb.1 hp hoth (by simp) (.inl rfl) (setRow_heap _ _ _ _ _ _ hw) ?_ ?_) (ctxPut_kept hR hb.1 hp hoth)
        (ctxPut_fr hb.1 hp (calm_setRow _ _ _) hoth (by simp) (.inl rfl)) (.tup _ _ .nil)⟩
       ·intro bt' cs' he
        injection he with he0 he
        subst he0 he
        refine ⟨rfl, ?_, _, rfl, ?_⟩
        ·rw [lvleL_iff] at h1 ⊢
         intro x hx
         simp only [splice, List.mem_append] at hx
         rcases hx with (hx | hx) | hx
         ·exact h1 x (List.mem_of_mem_take hx)
         ·exact lvleL_iff.1 (lvle_cells hlv) x hx
         ·exact h1 x (List.mem_of_mem_drop hx)
        ·have := hrl.splice hcl off
         rw [hys] at this
         exact this
       ·intro ro g sz e xs he; cases he
     ·cases h
    ·cases h
   ·rename_i l g i off
    split at h
    ·rename_i u S1 hfz
     obtain ⟨hcu, ls, rfl, hu⟩ := freeze_rep hR hfz hy
     split at h
     ·rename_i ro g' sz e xs hS
      split at h
      ·rename_i hc
       obtain ⟨rfl, rfl, hi, rfl, rfl, hul⟩ := hc
       simp only [Option.some.injEq] at h
       subst h
       have hR1 := ctxShut_rel hR ls
       have ha1 := ha.kept (ctxShut_kept c ls)
       cases ha1 with
       | aptr _ _ _ _ p ho =>
        have hS1 : (ctxShut c ls).S l = some (.arr false g n e xs) := hS
        simp only [AptrOk, hS1] at ho
        obtain ⟨hD, _, rfl⟩ := ho.2 trivial
        obtain ⟨cur, fz, vs, hw, hfz0, _, hE, htk⟩ := hR1.arr l _ _ _ _ _ hD hS1
        obtain rfl := hfz0 rfl
        have hcl := hu.cells (closed_ones hcu)
        have hys : yv.cells.toList.length = n := hcl.length.trans hul
        have hvl := hE.length
        have hcs : vs.length ≤ cur.size := by rw [← htk, List.length_take]; simp; omega
        have hin : (i + 1) * n ≤ vs.length := by rw [hvl]; exact Nat.mul_le_mul_right _ hi
        have hin' : i * n + n ≤ cur.size := by rw [Nat.add_mul, Nat.one_mul] at hin; omega
        have hrun := storeCells_run (P := P) (w := c.w) (v := yv) hn (by simpa using hys) (show c.w.heap[c.β l]? = some (.cells cur e (0, 0)) from hw) (o := i * n) hin' (hcl.ones (closed_ones hcu))
        have hwn := setRow_heap c.w (c.β l) cur (cur.toList.take (i * n) ++ yv.cells.toList ++ cur.toList.drop (i * n + n)).toArray e (0, 0) hw
        have hp : PutOk (ctxShut c ls) l (.arr false g n e (xs.set i u)) (c.β l) (c.w.setRow (c.β l) (cur.toList.take (i * n) ++ yv.cells.toList ++ cur.toList.drop (i * n + n)).toArray) :=
         .inr ⟨g, n, e, xs, g, _, hS1, rfl, .inr ⟨rfl, by simp, rfl, fun cur' fz' hc' => by
          rw [hw] at hc'
          simp only [Option.some.injEq, Obj.cells.injEq] at hc'
          obtain ⟨rfl, _, rfl⟩ := hc'
          refine ⟨_, _, hwn, ?_⟩
          have := splice_length cur.toList (i * n) yv.cells.toList (by rw [hys]; simpa using hin')
          rw [hys] at this
          simpa using this⟩⟩
        have hoth : ∀ x, x < (ctxShut c ls).w.heap.size → x ≠ c.β l → (c.w.setRow (c.β l) (cur.toList.take (i * n) ++ yv.cells.toList ++ cur.toList.drop (i * n + n)).toArray).heap[x]? = c.w.heap[x]? := fun x _ hx => setRow_other _ _ _ _ hx
        refine ⟨ctxPut (ctxShut c ls) l _ (c.β l) _, hrun, Stp.after_shut (ls := ls) hR (Stp.of_put hD (fun l h => hL l h) (ctxPut_rel hR1 hD hp hoth (by simp [ctxShut]) (.inl rfl) hwn ?_ ?_) (ctxPut_kept hR1 hD hp hoth)
         (ctxPut_fr hD hp (calm_setRow _ _ _) hoth (by simp [ctxShut]) (.inl rfl)) (.tup _ _ .nil))⟩
        ·intro bt cs he; cases he
        ·intro ro g0 sz0 e0 xs0 he
         injection he with h1 h2 h3 h4 h5
         subst h1 h2 h3 h4 h5
         refine ⟨rfl, _, hE.set hi hu hul hcu, ?_⟩
         have hi1 : (i + 1) * n = i * n + n := by rw [Nat.add_mul, Nat.one_mul]
         have htl : (vs.take (i * n)).length = i * n := by simp; omega
         have hvt : vs.take (i * n) = cur.toList.take (i * n) := by rw [← htk, List.take_take, Nat.min_eq_left (by omega)]
         have hvd : vs.drop (i * n + n) = (cur.toList.drop (i * n + n)).take (vs.length - (i * n + n)) := by
          conv => lhs; rw [← htk]
          rw [List.drop_take]
         simp only [List.toList_toArray, hi1]
         have hlen : (vs.take (i * n) ++ yv.cells.toList ++ vs.drop (i * n + n)).length = i * n + n + (vs.length - (i * n + n)) := by simp [hys]; omega
         have hlA : (cur.toList.take (i * n) ++ yv.cells.toList).length = i * n + n := by simp [hys]; omega
         rw [hlen, hvt, hvd]
         rw [List.take_append, List.take_of_length_le (by omega), hlA, Nat.add_sub_cancel_left]
      ·cases h
     ·cases h
    ·cases h
   ·cases h
  ·cases h
 ·cases h
theorem fieldAddrT_sound {P : Program} {c : Ctx} {s : TypeId} {f : Nat} {a t : T} {av : Value} (h : fieldAddrT P s f a = some t) (ha : Rep c a av) :
  ∃ v, (∀ w, (Instr.fieldAt s av f).run P w = .ok v w) ∧ Rep c t v := by
 unfold fieldAddrT at h
 split at h
 ·rename_i o n ft hf
  split at h
  ·cases h
  ·rename_i hn0
   unfold fieldT at hf
   split at hf
   ·rename_i fs hu
    split at hf
    ·rename_i fd hfd
     split at hf
     ·rename_i n' hsz
      simp only [Option.some.injEq, Prod.mk.injEq] at hf
      obtain ⟨rfl, rfl, rfl⟩ := hf
      have hp : ∀ (w : World) (p : Addr), (fieldPlace p fd).run P w = .ok (p.add fd.offset) w := fun w p => by simp [fieldPlace, Sem.run_bind, sizeOf_run hsz, hn0]
      have hr : ∀ (w : World) (p : Addr), (Instr.fieldAt s (.pointer (some p)) f).run P w = .ok (.pointer (some (p.add fd.offset))) w := fun w p => by
       simp [Instr.fieldAt, Sem.run_bind, run_underlying hu, hfd, Instr.sureAddr, hp]
      cases ha with
      | ptr l off hb =>
       simp only [Option.some.injEq] at h; subst h
       exact ⟨_, fun w => hr w _, by rw [add_addr]; exact .ptr l _ hb⟩
      | lptr sz xs i off b o vs hs hE hc =>
       simp only [Option.some.injEq] at h; subst h
       exact ⟨_, fun w => hr w _, by rw [add_addr, Nat.add_assoc]; exact .lptr sz xs i _ b o vs hs hE hc⟩
      | aptr l g i off p ho =>
       simp only [Option.some.injEq] at h; subst h
       refine ⟨_, fun w => hr w _, .aptr l g i _ _ ?_⟩
       unfold AptrOk at ho ⊢
       cases hS : c.S l with
       | none => simp [hS] at ho
       | some ob =>
        cases ob with
        | box bt cs => simp [hS] at ho
        | gone => trivial
        | arr ro g' sz e xs =>
         simp only [hS] at ho ⊢
         refine ⟨ho.1, fun hg => ?_⟩
         obtain ⟨hD, hi, rfl⟩ := ho.2 hg
         exact ⟨hD, hi, by rw [add_addr, Nat.add_assoc]⟩
      | _ => simp at h
     ·cases hf
    ·cases hf
   ·cases hf
 ·cases h
theorem part_run {P : Program} {c : Ctx} {ft : TypeId} {ag : Bool} {n off : Nat} {cs : List T} {vs : List Value} {x : T} (ha : isAggT P ft = some ag) (hn : szOf P ft = some n)
  (hl : RepL c cs vs) (hx : readAt ag n cs off = some x) : ∃ v, (∀ w, (part ft vs.toArray off).run P w = .ok v w) ∧ Rep c x v := by
 unfold readAt at hx
 cases ag with
 | true =>
  simp only [if_true] at hx
  split at hx
  ·simp only [Option.some.injEq] at hx
   subst hx
   refine ⟨_, fun w => ?_, .agg _ _ ((hl.drop off).take n)⟩
   have : vs.toArray.extract off (off + n) = ((vs.drop off).take n).toArray := by
    apply Array.toList_inj.1
    simp [List.take_drop, Nat.add_comm]
   simp [part, Sem.run_bind, isAgg_run ha, sizeOf_run hn, this]
  ·cases hx
 | false =>
  simp only [Bool.false_eq_true, if_false] at hx
  obtain ⟨v, hv, hr⟩ := hl.get hx
  exact ⟨v, fun w => by simp [part, Sem.run_bind, isAgg_run ha, hv], hr⟩
theorem fieldT_field {P : Program} {c : Ctx} {t ft : TypeId} {f off n : Nat} {cs : List T} {xv : Value} {ag : Bool} {x : T} (hf : fieldT P t f = some (off, n, ft)) (hx : Rep c (.agg cs) xv)
  (ha : isAggT P ft = some ag) (hr : readAt ag n cs off = some x) : ∃ v, (∀ w, (Instr.field t xv f).run P w = .ok v w) ∧ Rep c x v := by
 unfold fieldT at hf
 split at hf
 ·rename_i fs hu
  split at hf
  ·rename_i fd hfd
   split at hf
   ·rename_i n' hsz
    simp only [Option.some.injEq, Prod.mk.injEq] at hf
    obtain ⟨rfl, rfl, rfl⟩ := hf
    cases hx with
    | agg _ vs hl =>
     obtain ⟨v, hv, hrv⟩ := part_run (P := P) ha hsz hl hr
     exact ⟨v, fun w => by simp [Instr.field, Sem.run_bind, run_underlying hu, hfd, asAgg, hv], hrv⟩
   ·cases hf
  ·cases hf
 ·cases hf
theorem idxOk_iff {n : Int} {k : Nat} (h : idxOk n k = true) : 0 ≤ n ∧ n < k := by simpa [idxOk] using h
theorem indexT_agg {P : Program} {c : Ctx} {t e : TypeId} {len sz : Nat} {ag : Bool} {cs : List T} {xv iv : Value} {k : IntKind} {m : Int} {x : T} (hu : P.underlying t = some (.array len e)) (hsz : szOf P e = some sz) (ha : isAggT P e = some ag)
  (hm : idxOk m len = true) (hx : Rep c (.agg cs) xv) (hi : Rep c (.sc (.int k m)) iv) (hr : readAt ag sz cs (m.toNat * sz) = some x) : ∃ v, (∀ w, (Instr.index t xv iv).run P w = .ok v w) ∧ Rep c x v := by
 obtain rfl := hi.scv
 cases hx with
 | agg _ vs hl =>
  obtain ⟨v, hv, hrv⟩ := part_run (P := P) ha hsz hl hr
  have hb := idxOk_iff hm
  exact ⟨v, fun w => by simp [Instr.index, Sem.run_bind, Sem.run_pure, asIntOf, run_underlying hu, hb.1, hb.2, sizeOf_run hsz, hv], hrv⟩
theorem indexAddrT_sound {P : Program} {c : Ctx} (hR : Rel c) {t : TypeId} {x i r : T} {xv iv : Value} (h : indexAddrT P c.S t x i = some r) (hx : Rep c x xv) (hi : Rep c i iv) :
  ∃ v, (∀ w, (Instr.indexAt t xv iv).run P w = .ok v w) ∧ Rep c r v := by
 unfold indexAddrT at h
 split at h
 ·rename_i k n
  obtain rfl := hi.scv
  split at h
  ·rename_i e hu
   split at h
   ·rename_i sz sz' xs hsz
    split at h
    ·rename_i hss
     subst hss
     cases hb : idxOk n xs.length with
     | false => simp [hb] at h
     | true =>
      simp only [hb, cond_true, Option.some.injEq] at h
      subst h
      obtain ⟨h0, h1⟩ := idxOk_iff hb
      cases hx with
      | lst0 _ A cap => simp at h1; omega
      | lst _ _ b o cap vs hs hE hc hcap =>
       refine ⟨_, fun w => ?_, .lptr sz xs n.toNat 0 b o vs hs hE hc⟩
       simp [Instr.indexAt, Sem.run_bind, asIntOf, run_underlying hu, sizeOf_run hsz, h0, h1, add_addr]
    ·cases h
   ·rename_i sz l g off len hsz
    split at h
    ·rename_i ro g' sz' e' xs hS
     split at h
     ·rename_i hg
      obtain ⟨rfl, rfl, hlen⟩ := hg
      cases hb : idxOk n len with
      | false => simp [hb] at h
      | true =>
       simp only [hb, cond_true, Option.some.injEq] at h
       subst h
       obtain ⟨h0, h1⟩ := idxOk_iff hb
       cases hx with
       | own _ _ _ _ A cap ho =>
        simp only [OwnOk, hS] at ho
        obtain ⟨hD, _, hc, hA⟩ := ho.2 trivial
        obtain ⟨cur, fz, rfl, hw, hsz'⟩ := hA.resolve_left (by omega)
        refine ⟨.pointer (some ⟨c.β l, off * sz + n.toNat * sz, none⟩), fun w => by simp [Instr.indexAt, Sem.run_bind, asIntOf, run_underlying hu, sizeOf_run hsz, h0, h1, add_addr], .aptr _ _ _ _ _ ?_⟩
        simp only [AptrOk, hS]
        exact ⟨Nat.le_refl _, fun _ => ⟨hD, by omega, by simp [Nat.add_mul]⟩⟩
     ·cases h
    ·cases h
   ·cases h
  ·rename_i len e hu
   split at h
   ·rename_i sz l off hsz
    cases hb : idxOk n len with
    | false => simp [hb] at h
    | true =>
     simp only [hb, cond_true, Option.some.injEq] at h
     subst h
     obtain ⟨h0, h1⟩ := idxOk_iff hb
     cases hx with
     | ptr _ _ hbx =>
      refine ⟨.pointer (some ⟨c.β l, off + n.toNat * sz, none⟩), fun w => ?_, .ptr l _ hbx⟩
      simp [Instr.indexAt, Sem.run_bind, asIntOf, run_underlying hu, Instr.sureAddr, sizeOf_run hsz, h0, h1, add_addr]
   ·cases h
  ·cases h
 ·cases h
theorem elemT_slice {P : Program} {t e : TypeId} {sz : Nat} (h : elemT P t = some (e, sz)) : P.underlying t = some (.slice e) ∧ szOf P e = some sz := by
 unfold elemT at h
 split at h
 ·rename_i e' hu
  cases hs : szOf P e' with
  | none => simp [hs] at h
  | some n => simp [hs] at h; obtain ⟨rfl, rfl⟩ := h; exact ⟨hu, hs⟩
 ·cases h
theorem len_run {P : Program} {t ty e : TypeId} {sz n cap : Nat} {A : Option Addr} (h : elemT P t = some (e, sz)) (w : World) :
  (Builtin.len_ #[t] ty #[.slice A n cap]).run P w = .ok (.int .i64 n) w := by
 obtain ⟨hu, _⟩ := elemT_slice h
 simp [Builtin.len_, run_underlying hu, goInt]
theorem World.alloc_old {w : World} {o : Go.Obj} {b : Nat} (h : b < w.heap.size) : (w.alloc o).heap[b]? = w.heap[b]? := by
 show (w.heap.push o)[b]? = _
 rw [Array.getElem?_push, if_neg (by omega)]
theorem World.alloc_new (w : World) (o : Go.Obj) : (w.alloc o).heap[w.heap.size]? = some o := by
 show (w.heap.push o)[w.heap.size]? = _
 simp
theorem ctxNew_full (c : Ctx) (l : Loc) (o : Obj) (w' : World) (h : ∀ m, c.S m ≠ none → c.D m) (m : Loc) (hm : (ctxNew c l o w').S m ≠ none) : (ctxNew c l o w').D m := by
 by_cases e : m = l
 ·exact .inr e
 ·exact .inl (h m (by simpa [ctxNew, upd_ne _ _ e] using hm))
theorem newBox_sound {L : Nat} {c : Ctx} (hR : Rel c) (hL : ∀ l, c.D l → l.1 ≤ L) {d : Option Tmp} {cs : List T} {vs : List Value} {ty : TypeId} {re : Res} (h : newBox L d ty cs c.S = some re) (hl : RepL c cs vs) :
  ∃ c', c'.w = c.w.alloc (.cells vs.toArray ty) ∧ Stp L c re.S re.t (.pointer (some ⟨c.w.heap.size, 0, none⟩)) c' := by
 unfold newBox at h
 split at h
 ·rename_i d
  split at h
  ·rename_i hc
   simp only [Bool.and_eq_true, Option.isNone_iff_eq_none] at hc
   obtain ⟨⟨hn, hlv⟩, hon⟩ := hc
   simp only [Option.some.injEq] at h
   subst h
   have ho : ∀ b, b < c.w.heap.size → (c.w.alloc (.cells vs.toArray ty)).heap[b]? = c.w.heap[b]? := fun b hb => World.alloc_old hb
   have hsz : c.w.heap.size ≤ (c.w.alloc (.cells vs.toArray ty)).heap.size := by show _ ≤ (c.w.heap.push _).size; simp
   refine ⟨ctxNew c (L, d) (.box ty cs) _, rfl, ctxNew_rel hR hn ho hsz (World.alloc_new _ _) ?_ ?_, ctxNew_kept hn ho hR, ctxNew_fr hR hn ⟨rfl, rfl, rfl⟩ ho hsz, rfl, ?_, ?_, ?_, ctxNew_full _ _ _ _⟩
   ·intro bt' cs' he
    injection he with he0 he
    subst he0 he
    exact ⟨rfl, hlv, vs, rfl, hl⟩
   ·intro ro g sz e xs he; cases he
   ·have := Rep.ptr (c := ctxNew c (L, d) (.box ty cs) (c.w.alloc (.cells vs.toArray ty))) (L, d) 0 ⟨.inr rfl, ty, cs, upd_same _ _ _⟩
    simpa [ctxNew] using this
   ·rintro l (hl | rfl)
    ·exact hL l hl
    ·exact Nat.le_refl _
   ·rintro l (hl | rfl)
    ·exact .inl hl
    ·exact .inr (.inl rfl)
  ·cases h
 ·cases h
theorem scs_rep (c : Ctx) : ∀ (vs : List Value), vs.all isSc = true → RepL c (vs.map .sc) vs
 | [], _ => .nil
 | v :: vs, h => by
  simp only [List.all_cons, Bool.and_eq_true] at h
  exact .cons _ _ _ _ (.sc v h.1) (scs_rep c vs h.2)
theorem zeroCellsT_rep {P : Program} {e : TypeId} {z : List T} (h : zeroCellsT P e = some z) (c : Ctx) : ∃ i v, P.info? e = some i ∧ i.zero = some v ∧ RepL c z v.cells.toList := by
 unfold zeroCellsT at h
 split at h
 ·rename_i i hi
  split at h
  ·rename_i v hv
   split at h
   ·rename_i ha
    simp only [Option.some.injEq] at h
    subst h
    exact ⟨i, v, hi, hv, scs_rep c _ ha⟩
   ·cases h
  ·cases h
 ·cases h
theorem alloc_sound {P : Program} {L : Nat} {c : Ctx} (hR : Rel c) (hL : ∀ l, c.D l → l.1 ≤ L) {e : TypeId} {d : Option Tmp} {z : List T} {re : Res} (hz : zeroCellsT P e = some z) (h : newBox L d e z c.S = some re) :
  ∃ v c', (Instr.alloc e true (.tuple #[])).run P c.w = .ok v c'.w ∧ Stp L c re.S re.t v c' := by
 obtain ⟨i, v, hi, hv, hr⟩ := zeroCellsT_rep hz c
 obtain ⟨c', hw, hs⟩ := newBox_sound (ty := e) hR hL h hr
 refine ⟨_, c', ?_, hs⟩
 rw [hw]
 simp [Instr.alloc, zeroValue, typeInfo, hi, hv, newVar, newRow]
theorem box_sound {P : Program} {L : Nat} {c : Ctx} (hR : Rel c) (hL : ∀ l, c.D l → l.1 ≤ L) {e : TypeId} {d : Option Tmp} {t : T} {tv : Value} {re : Res} (ht : Rep c t tv) (h : newBox L d e t.cells c.S = some re) :
  ∃ v c', (Instr.box e tv).run P c.w = .ok v c'.w ∧ Stp L c re.S re.t v c' := by
 have hon : t.cells.all one = true := by
  unfold newBox at h
  split at h
  ·split at h
   ·rename_i hc; simp only [Bool.and_eq_true] at hc; exact hc.2
   ·cases h
  ·cases h
 obtain ⟨c', hw, hs⟩ := newBox_sound (ty := e) hR hL h (ht.cells hon)
 refine ⟨_, c', ?_, hs⟩
 rw [hw]
 simp [Instr.box, newVar, newRow]
theorem newArr_at {L L' : Nat} (hle : L' ≤ L) (hlo : L' = L ∨ 1 ≤ L') {c : Ctx} (hR : Rel c) (hL : ∀ l, c.D l → l.1 ≤ L) {d : Option Tmp} {sz : Nat} {e : TypeId} {xs : List T} {vs : List Value} {eff : Nat} {re : Res} (h : newArr L' d sz e xs c.S eff = some re)
  (hE : RepE c sz xs vs) {w' : World} {cur : Array Value} (hc : Calm c.w w') (ho : ∀ b, b < c.w.heap.size → w'.heap[b]? = c.w.heap[b]?) (hsz : c.w.heap.size ≤ w'.heap.size)
  (hn : w'.heap[c.w.heap.size]? = some (.cells cur e (0, 0))) (htk : cur.toList.take vs.length = vs) {cap : Nat} (hcap : xs.length ≤ cap) (hfit : cap * sz ≤ cur.size) :
  ∃ c', c'.w = w' ∧ Stp L c re.S re.t (.slice (some ⟨c.w.heap.size, 0, none⟩) xs.length cap) c' := by
 unfold newArr at h
 split at h
 ·rename_i d
  split at h
  ·rename_i hnone
   simp only [Option.isNone_iff_eq_none] at hnone
   simp only [Option.some.injEq] at h
   subst h
   refine ⟨ctxNew c (L', d) (.arr false 0 sz e xs) w', rfl, ctxNew_rel hR hnone ho hsz hn ?_ ?_, ctxNew_kept hnone ho hR, ctxNew_fr hR hnone hc ho hsz, rfl, .own _ _ _ _ _ _ ?_, ?_, ?_, ctxNew_full _ _ _ _⟩
   ·intro bt cs he; cases he
   ·intro ro g sz' e' xs' he
    injection he with h1 h2 h3 h4 h5
    subst h1 h2 h3 h4 h5
    exact ⟨rfl, rfl, vs, hE, htk⟩
   ·have hS : (ctxNew c (L', d) (.arr false 0 sz e xs) w').S (L', d) = some (.arr false 0 sz e xs) := upd_same _ _ _
    simp only [OwnOk, hS]
    refine ⟨Nat.le_refl _, fun _ => ⟨.inr rfl, by omega, hcap, .inr ⟨cur, (0, 0), by simp [ctxNew], ?_, by simpa using hfit⟩⟩⟩
    simp [ctxNew, hn]
   ·rintro l (hl | rfl)
    ·exact hL l hl
    ·exact hle
   ·rintro l (hl | rfl)
    ·exact .inl hl
    ·exact .inr hlo
  ·cases h
 ·cases h
theorem newArr_sound {L : Nat} {c : Ctx} (hR : Rel c) (hL : ∀ l, c.D l → l.1 ≤ L) {d : Option Tmp} {sz : Nat} {e : TypeId} {xs : List T} {vs : List Value} {eff : Nat} {re : Res} (h : newArr L d sz e xs c.S eff = some re)
  (hE : RepE c sz xs vs) {w' : World} {cur : Array Value} (hc : Calm c.w w') (ho : ∀ b, b < c.w.heap.size → w'.heap[b]? = c.w.heap[b]?) (hsz : c.w.heap.size ≤ w'.heap.size)
  (hn : w'.heap[c.w.heap.size]? = some (.cells cur e (0, 0))) (htk : cur.toList.take vs.length = vs) {cap : Nat} (hcap : xs.length ≤ cap) (hfit : cap * sz ≤ cur.size) :
  ∃ c', c'.w = w' ∧ Stp L c re.S re.t (.slice (some ⟨c.w.heap.size, 0, none⟩) xs.length cap) c' := newArr_at (Nat.le_refl L) (.inl rfl) hR hL h hE hc ho hsz hn htk hcap hfit
theorem lowP_le (om : FuncId → List Nat) (L : Nat) (d : Option Tmp) (e : TypeId) : (lowP om L d e).1 ≤ L ∧ ((lowP om L d e).1 = L ∨ 1 ≤ (lowP om L d e).1) := by
 unfold lowP
 cases h : ((om 1000000000).contains e && decide (2 ≤ L)) with
 | true =>
  simp only [Bool.and_eq_true, decide_eq_true_eq] at h
  simp only [cond_true]
  exact ⟨by omega, .inr (by omega)⟩
 | false => exact ⟨Nat.le_refl _, .inl rfl⟩
theorem madeCells_rep (z : Array Value) (m : Nat) (hz : 0 < z.size) : (madeCells z (m * z.size)).toList = (List.replicate m z.toList).flatten := by
 induction m with
 | zero => simp [madeCells]
 | succ m ih =>
  rw [List.replicate_succ', List.flatten_append, ← ih]
  simp only [madeCells, Array.toList_map, Array.toList_range, Nat.add_mul, Nat.one_mul, List.range_add, List.map_append, List.map_map]
  congr 1
  simp only [List.flatten_cons, List.flatten_nil, List.append_nil]
  apply List.ext_getElem
  ·simp
  ·intro i h1 h2
   simp only [List.length_map, List.length_range] at h1
   simp [Nat.mul_add_mod_of_lt h1, Nat.mul_comm m, Nat.mod_eq_of_lt h1, h1]
theorem repE_replicate {c : Ctx} {z : T} {v : Value} {sz : Nat} (h : Rep c z v) (hl : z.cells.length = sz) (hcl : closed z = true) : ∀ m, RepE c sz (List.replicate m z) ((List.replicate m v.cells.toList).flatten)
 | 0 => .nil sz
 | m + 1 => by
  rw [List.replicate_succ, List.replicate_succ, List.flatten_cons]
  exact .cons sz z v _ _ h hl hcl (repE_replicate h hl hcl m)
theorem zeroT_info {P : Program} {e : TypeId} {z : T} {sz : Nat} (h : zeroT P e = some z) (hs : szOf P e = some sz) (c : Ctx) :
  ∃ i zv v, P.info? e = some i ∧ i.zero = some zv ∧ zv.cells.size = sz ∧ i.size = sz ∧ 0 < sz ∧ i.bytes ≤ 1000 ∧ Rep c z v ∧ v.cells.toList = zv.cells.toList ∧ z.cells.length = sz ∧ closed z = true := by
 unfold zeroT at h
 split at h
 ·rename_i i ag hi hag
  split at h
  ·rename_i zv hzv
   split at h
   ·rename_i hc
    simp only [Bool.and_eq_true, decide_eq_true_eq] at hc
    obtain ⟨⟨⟨hall, hsize⟩, hpos⟩, hby⟩ := hc
    have hsz : i.size = sz := by simpa [szOf, hi] using hs
    cases ag with
    | true =>
     simp only [if_true, Option.some.injEq] at h
     subst h
     refine ⟨i, zv, .agg zv.cells.toList.toArray, hi, hzv, hsize.trans hsz, hsz, by omega, hby, .agg _ _ (scs_rep c _ hall), by simp [Value.cells], by simp [T.cells, hsize, hsz], ?_⟩
     have key : ∀ vs : List Value, vs.all isSc = true → closedL (vs.map .sc) = true ∧ (vs.map T.sc).all one = true := by
      intro vs
      induction vs with
      | nil => intro _; exact ⟨rfl, rfl⟩
      | cons v vs ih =>
       intro hv
       simp only [List.all_cons, Bool.and_eq_true] at hv
       obtain ⟨h1, h2⟩ := ih hv.2
       exact ⟨by simp [closedL, closed, hv.1, h1], by simp only [List.map_cons, List.all_cons, one, h2, Bool.and_true]⟩
     obtain ⟨h1, h2⟩ := key _ hall
     simp only [closed, h1, h2, Bool.and_self]
    | false =>
     simp only [Bool.false_eq_true, if_false] at h
     split at h
     ·rename_i h1
      have hlt : 0 < zv.cells.size := by omega
      rw [Array.getElem?_eq_getElem hlt] at h
      simp only [Option.map_some, Option.some.injEq] at h
      subst h
      have hsc : isSc zv.cells[0] = true := List.all_eq_true.1 hall _ (by simp)
      refine ⟨i, zv, zv.cells[0], hi, hzv, hsize.trans hsz, hsz, by omega, hby, .sc _ hsc, ?_, by simp [T.cells]; omega, by simp [closed, hsc]⟩
      rw [isSc_cells hsc]
      apply List.ext_getElem
      ·simp [h1]
      ·intro j hj1 hj2
       simp at hj1
       subst hj1
       simp
     ·cases h
   ·cases h
  ·cases h
 ·cases h
theorem makeT_sound {P : Program} {L : Nat} {c : Ctx} (hR : Rel c) (hL : ∀ l, c.D l → l.1 ≤ L) {d : Option Tmp} {t : TypeId} {l cp : T} {lv cv : Value} {re : Res} (h : makeT P L d c.S t l cp = some re)
  (hl : Rep c l lv) (hc : Rep c cp cv) : ∃ v c', (Instr.makeSlice t lv cv).run P c.w = .ok v c'.w ∧ Stp L c re.S re.t v c' := by
 unfold makeT at h
 split at h
 ·rename_i e sz kl n kc m he
  obtain rfl := hl.scv
  obtain rfl := hc.scv
  obtain ⟨hu, hsz⟩ := elemT_slice he
  split at h
  ·rename_i z hz
   split at h
   ·rename_i hb
    obtain ⟨h0, hnm, hm⟩ := hb
    simp only [maxRow] at hm
    obtain ⟨i, zv, v, hi, hzv, hzs, his, hpos, hby, hrep, hcells, hlen, hcl⟩ := zeroT_info hz hsz c
    have hbm : (i.bytes : Int) * m ≤ 281474976710656 := by
     have h1 : (i.bytes : Int) * m ≤ 1000 * m := Int.mul_le_mul_of_nonneg_right (by omega) (by omega)
     omega
    have hrun := run_make (P := P) c.w t e i zv hu hi hzv kl kc n m h0 hnm hbm (by omega)
    have hmr := madeCells_rep zv.cells m.toNat (by omega)
    have hE := repE_replicate hrep hlen hcl n.toNat
    have hEl := hE.length
    obtain ⟨c', hw, hs⟩ := newArr_sound (cur := madeCells zv.cells (m.toNat * i.size)) (cap := m.toNat) hR hL h hE (w' := c.w.alloc (.cells (madeCells zv.cells (m.toNat * i.size)) e)) ⟨rfl, rfl, rfl⟩
     (fun b hb => World.alloc_old hb) (by show _ ≤ (c.w.heap.push _).size; simp) (World.alloc_new _ _) (by
      rw [his, ← hzs, hmr, hcells, show m.toNat = n.toNat + (m.toNat - n.toNat) from by omega, ← List.replicate_append_replicate, List.flatten_append]
      exact List.take_left) (by simp; omega) (by rw [size_madeCells, his]; exact Nat.le_refl _)
    rw [List.length_replicate] at hs
    exact ⟨_, c', by rw [hw]; exact hrun, hs⟩
   ·cases h
  ·cases h
 ·cases h
theorem bndO_run {P : Program} {c : Ctx} {n : Nat} {s : Slots} {a : Act} (hs : SR c n s a) {dflt : Nat} {x : Operand} {i : Int} (h : bndO s dflt (some x) = some i) :
  ∃ k, a.eval x = .int k i := by
 unfold bndO at h
 simp only at h
 split at h
 ·rename_i k m hx
  simp only [Option.some.injEq] at h
  subst h
  exact ⟨k, (ev_rep hs hx).scv⟩
 ·cases h
theorem sliceBounds_run {P : Program} {c : Ctx} {nn : Nat} {s : Slots} {a : Act} (hs : SR c nn s a) {n cap : Nat} (hcap : n ≤ cap) {lo hi mx : Option Operand} {l h m : Int}
  (hl : bndO s 0 lo = some l) (hh : bndO s n hi = some h) (hm : bndO s n mx = some m) (hb : 0 ≤ l ∧ l ≤ h ∧ h ≤ m ∧ m ≤ n ∧ (mx.isSome → hi.isSome)) (w : World) :
  (Instr.sliceBounds true n cap (lo.map a.eval) (hi.map a.eval) (mx.map a.eval)).run P w = .ok (l.toNat, h.toNat, if mx.isSome then m.toNat else cap) w := by
 obtain ⟨h0, h1, h2, h3, h4⟩ := hb
 have sb : ∀ (k : IntKind) (i : Int) (y : Nat) (code : BoundsCode), 0 ≤ i → i ≤ y → (Instr.sliceBound (.int k i) y code).run P w = .ok i.toNat w := fun k i y code a b => by
  simp [Instr.sliceBound, Sem.run_bind, asIntOf, a, b]
 have hlo : (lo = none ∧ l = 0) ∨ ∃ x k, lo = some x ∧ a.eval x = .int k l := by
  cases lo with
  | none => simp only [bndO, Option.some.injEq] at hl; exact .inl ⟨rfl, hl.symm⟩
  | some x => obtain ⟨k, hk⟩ := bndO_run (P := P) hs hl; exact .inr ⟨x, k, rfl, hk⟩
 have fin : ∀ (y : Nat) (hy : l ≤ y) (mm : Nat) (code : BoundsCode), ((match lo.map a.eval with
   | some v => do let l ← Instr.sliceBound v y code; pure (l, y, mm)
   | none => do let l ← pure 0; pure (l, y, mm)) : Sem (Nat × Nat × Nat)).run P w = .ok (l.toNat, y, mm) w := by
  intro y hy mm code
  rcases hlo with ⟨rfl, rfl⟩ | ⟨x, k, rfl, hk⟩
  ·rfl
  ·simp only [Option.map_some, hk, Sem.run_bind, sb k l y code h0 hy, Result.andThen, Sem.run_pure]
 cases mx with
 | none =>
  simp only [bndO, Option.some.injEq] at hm
  subst hm
  cases hi with
  | none =>
   simp only [bndO, Option.some.injEq] at hh
   subst hh
   simp only [Instr.sliceBounds, Option.map_none, Sem.run_bind, Sem.run_pure, Result.andThen, Option.isSome_none, Bool.false_eq_true, if_false]
   exact fin n h1 cap _
  | some y =>
   obtain ⟨k, hk⟩ := bndO_run (P := P) hs hh
   simp only [Instr.sliceBounds, Option.map_none, Option.map_some, Sem.run_bind, Sem.run_pure, Result.andThen, Option.isSome_none, Bool.false_eq_true, if_false, if_true, hk]
   rw [sb k h cap _ (by omega) (by omega)]
   exact fin h.toNat (by omega) cap _
 | some z =>
  obtain ⟨k, hk⟩ := bndO_run (P := P) hs hm
  cases hi with
  | none => simp at h4
  | some y =>
   obtain ⟨k2, hk2⟩ := bndO_run (P := P) hs hh
   simp only [Instr.sliceBounds, Option.map_some, Sem.run_bind, Sem.run_pure, Result.andThen, Option.isSome_some, if_true, hk, hk2]
   rw [sb k m cap _ (by omega) (by omega)]
   simp only [Result.andThen]
   rw [sb k2 h m.toNat _ (by omega) (by omega)]
   exact fin h.toNat (by omega) m.toNat _
theorem sliceT_sound {P : Program} {c : Ctx} {nn : Nat} {s : Slots} {a : Act} (hs : SR c nn s a) {t : TypeId} {x r : T} {xv : Value} {lo hi mx : Option Operand}
  (h : sliceT P s c.S t x lo hi mx = some r) (hx : Rep c x xv) : ∃ v, (∀ w, (Instr.sliceAt t xv (lo.map a.eval) (hi.map a.eval) (mx.map a.eval)).run P w = .ok v w) ∧ Rep c r v := by
 unfold sliceT at h
 split at h
 ·rename_i e sz he
  obtain ⟨hu, hsz⟩ := elemT_slice he
  have hrun : ∀ (w : World) (A : Option Addr) (n cap : Nat) (l h m : Nat), (Instr.sliceBounds true n cap (lo.map a.eval) (hi.map a.eval) (mx.map a.eval)).run P w = .ok (l, h, m) w →
    (Instr.sliceAt t (.slice A n cap) (lo.map a.eval) (hi.map a.eval) (mx.map a.eval)).run P w = .ok (.slice (if m = l then A else A.map (·.add (l * sz))) (h - l) (m - l)) w := fun w A n cap l h m hb => by
   simp [Instr.sliceAt, Instr.slice, Sem.run_bind, run_underlying hu, hb, sizeOf_run hsz]
  split at h
  ·rename_i sz' xs
   split at h
   ·rename_i hss
    subst hss
    unfold cutT at h
    split at h
    ·rename_i l h' m hl hh hm
     split at h
     ·rename_i hb
      simp only [Option.some.injEq] at h
      subst h
      cases hx with
      | lst0 _ A cap =>
       have hb' := hb
       simp only [List.length_nil, Int.natCast_zero] at hb'
       obtain ⟨rfl, rfl⟩ : l = 0 ∧ h' = 0 := by omega
       have := fun w => sliceBounds_run (P := P) hs (n := 0) (cap := cap) (by omega) hl hh hm hb w
       refine ⟨_, fun w => hrun w A 0 cap _ _ _ (this w), ?_⟩
       simp only [Int.toNat_zero, List.take_zero, List.drop_zero, Nat.sub_zero]
       exact .lst0 _ _ _
      | lst _ _ b o cap vs hsh hE hc hcap =>
       have := fun w => sliceBounds_run (P := P) hs (n := xs.length) (cap := cap) hcap hl hh hm hb w
       refine ⟨_, fun w => hrun w _ _ cap _ _ _ (this w), ?_⟩
       have hlen : ((xs.take h'.toNat).drop l.toNat).length = h'.toNat - l.toNat := by simp; omega
       by_cases h0 : h'.toNat - l.toNat = 0
       ·rw [h0, List.eq_nil_of_length_eq_zero (hlen.trans h0)]
        exact .lst0 _ _ _
       ·have hml : ∀ q : Nat, (if mx.isSome then m.toNat else cap) = q → q ≠ l.toNat ∧ h'.toNat ≤ q := by
         rintro q rfl
         split <;> omega
        obtain ⟨hne, hle⟩ := hml _ rfl
        rw [if_neg hne]
        have hE2 := (hE.take h'.toNat).drop l.toNat
        have := Rep.lst (c := c) sz _ b (o + l.toNat * sz) ((if mx.isSome then m.toNat else cap) - l.toNat) _ hsh hE2 (fun i v hi => ?_) (by omega)
        ·rw [hlen] at this
         simpa [add_addr] using this
        ·rw [List.getElem?_drop, List.getElem?_take] at hi
         split at hi
         ·rw [Nat.add_assoc]; exact hc _ _ hi
         ·cases hi
     ·cases h
    ·cases h
   ·cases h
  ·rename_i lc g off len
   split at h
   ·rename_i ro g' sz' e' xs hS
    split at h
    ·rename_i hg
     obtain ⟨rfl, rfl⟩ := hg
     unfold cutT at h
     split at h
     ·rename_i l h' m hl hh hm
      split at h
      ·rename_i hb
       simp only [Option.some.injEq] at h
       subst h
       cases hx with
       | own _ _ _ _ A cap ho =>
        simp only [OwnOk, hS] at ho
        obtain ⟨hD, hlen, hcap, hA⟩ := ho.2 trivial
        have := fun w => sliceBounds_run (P := P) hs (n := len) (cap := cap) hcap hl hh hm hb w
        refine ⟨_, fun w => hrun w A len cap _ _ _ (this w), .own _ _ _ _ _ _ ?_⟩
        simp only [OwnOk, hS]
        refine ⟨Nat.le_refl _, fun _ => ⟨hD, by omega, ?_, ?_⟩⟩
        ·split <;> omega
        ·have hq : ∀ q : Nat, (if mx.isSome then m.toNat else cap) = q → q ≤ cap ∧ l.toNat ≤ q := by
          rintro q rfl
          split <;> omega
         obtain ⟨hq1, hq2⟩ := hq _ rfl
         generalize (if mx.isSome then m.toNat else cap) = q at hq1 hq2 ⊢
         by_cases h0 : q = l.toNat
         ·left; omega
         ·right
          rw [if_neg h0]
          rcases hA with hA | ⟨cur, fz, rfl, hw, hsz'⟩
          ·omega
          ·refine ⟨cur, fz, by simp [add_addr, Nat.add_mul], hw, ?_⟩
           refine Nat.le_trans (Nat.mul_le_mul_right _ ?_) hsz'
           omega
      ·cases h
     ·cases h
    ·cases h
   ·cases h
  ·cases h
 ·cases h
theorem foldl_set (off : Nat) : ∀ (vs : List Value) (k : Nat) (cs : Array Value), off + k + vs.length ≤ cs.size →
  ((vs.zipIdx k).foldl (fun cs p => cs.setIfInBounds (off + p.2) p.1) cs).toList = cs.toList.take (off + k) ++ vs ++ cs.toList.drop (off + k + vs.length)
 | [], k, cs, h => by simp
 | v :: vs, k, cs, h => by
  simp only [List.length_cons] at h
  have hlt : off + k < cs.size := by omega
  rw [List.zipIdx_cons, List.foldl_cons, foldl_set off vs (k + 1) _ (by simp; omega)]
  simp only [Array.toList_setIfInBounds, List.length_cons]
  have e := list_seg_step cs.toList (off + k) v vs (by simp; omega)
  simpa [Nat.add_assoc, Nat.add_comm, Nat.add_left_comm] using e
theorem fill_cells (off : Nat) (v : Value) (cs : Array Value) (h : off + v.cells.size ≤ cs.size) :
  (v.cells.zipIdx.foldl (fun cs (x : Value × Nat) => cs.setIfInBounds (off + x.2) x.1) cs).toList = cs.toList.take off ++ v.cells.toList ++ cs.toList.drop (off + v.cells.size) := by
 have := foldl_set off v.cells.toList 0 cs (by simpa using h)
 rw [← Array.foldl_toList, Array.toList_zipIdx]
 simpa using this
theorem fillT_rep {P : Program} {c : Ctx} {nn : Nat} {s : Slots} {a : Act} (hs : SR c nn s a) {ps : List (Nat × Nat)} : ∀ (parts : List (Nat × Operand)) {cs r : List T} {cur : Array Value},
  fillT ps s cs parts = some r → RepL c cs cur.toList → ∃ out, Instr.fill (ps[·]?) cur (parts.map fun p => (p.1, a.eval p.2)) = some out ∧ RepL c r out.toList
 | [], cs, r, cur, h, hl => by
  simp only [fillT, Option.some.injEq] at h
  subst h
  exact ⟨cur, rfl, hl⟩
 | (i, x) :: parts, cs, r, cur, h, hl => by
  simp only [fillT] at h
  split at h
  ·rename_i off n t hp hx
   split at h
   ·rename_i hc
    obtain ⟨hn, hfit, hon⟩ := hc
    have hv := ev_rep hs hx
    have hcl := hv.cells hon
    have hsz : (a.eval x).cells.size = n := by have := hcl.length; simpa [hn] using this
    have hcs : cs.length = cur.size := by have := hl.length; simpa using this.symm
    have hf := fill_cells off (a.eval x) cur (by omega)
    have hr := hl.splice hcl off
    simp only [Array.length_toList] at hr
    rw [← hf] at hr
    obtain ⟨out, ho, hro⟩ := fillT_rep (P := P) hs parts h hr
    refine ⟨out, ?_, hro⟩
    simp only [List.map_cons, Instr.fill, hp]
    rw [if_neg (by simp [hsz]; omega)]
    exact ho
   ·cases h
  ·cases h
theorem buildT_sound {P : Program} {c : Ctx} {nn : Nat} {s : Slots} {a : Act} (hs : SR c nn s a) {t : TypeId} {parts : Array (Nat × Operand)} {r : T} (h : buildT P s t parts.toList = some r) :
  ∃ v, (∀ w, (Instr.build t (parts.map fun (p : Nat × Operand) => (p.1, a.eval p.2))).run P w = .ok v w) ∧ Rep c r v := by
 unfold buildT at h
 split at h
 ·rename_i ps z hp hz
  cases hf : fillT ps s z parts.toList with
  | none => simp [hf] at h
  | some cs =>
   simp only [hf, Option.map_some, Option.some.injEq] at h
   subst h
   obtain ⟨i, zv, hi, hzv, hzr⟩ := zeroCellsT_rep hz c
   obtain ⟨out, ho, hr⟩ := fillT_rep (P := P) hs parts.toList hf hzr
   unfold placesT at hp
   split at hp
   ·rename_i fs hu
    have hb : P.built t (parts.map fun (p : Nat × Operand) => (p.1, a.eval p.2)).toList = some out := by
     simp only [Program.built, hi, hu, hzv, hp, Array.toList_map]
     simpa using ho
    refine ⟨_, fun w => run_build w t _ out hb, ?_⟩
    have := Rep.agg _ _ hr
    simpa using this
   ·rename_i len e hu
    cases hsz : szOf P e with
    | none => rw [hsz] at hp; cases hp
    | some sz =>
     rw [hsz] at hp
     simp only [Option.map_some, Option.some.injEq] at hp
     subst hp
     obtain ⟨ie, hie, rfl⟩ := szOf_info hsz
     have hmono : ∀ (l : List (Nat × Value)) (cur o : Array Value), Instr.fill (((List.range len).map fun i => (i * ie.size, ie.size))[·]?) cur l = some o → Instr.fill (fun i => some (i * ie.size, ie.size)) cur l = some o := by
      intro l
      induction l with
      | nil => intro cur o h; exact h
      | cons q l ih =>
       intro cur o h
       obtain ⟨i, v⟩ := q
       simp only [Instr.fill] at h ⊢
       split at h
       ·cases h
       ·rename_i off size hpl
        have hi : i < len := by
         have := (List.getElem?_eq_some_iff.1 hpl).1
         simpa using this
        have hpl2 : ((List.range len).map fun i => (i * ie.size, ie.size))[i]? = some (i * ie.size, ie.size) := by simp [hi]
        rw [hpl2] at hpl
        simp only [Option.some.injEq, Prod.mk.injEq] at hpl
        obtain ⟨rfl, rfl⟩ := hpl
        split at h
        ·cases h
        ·rename_i hc
         rw [if_neg hc]
         exact ih _ _ h
     have hb : P.built t (parts.map fun (p : Nat × Operand) => (p.1, a.eval p.2)).toList = some out := by
      simp only [Program.built, hi, hu, hzv, hie, Array.toList_map]
      exact hmono _ _ _ ho
     refine ⟨_, fun w => run_build w t _ out hb, ?_⟩
     have := Rep.agg _ _ hr
     simpa using this
   ·cases hp
 ·cases h
theorem freezeL_rep {c : Ctx} (hR : Rel c) : ∀ (ts : List T) {us : List T} {S' : Store} {vs : List Value}, freezeL c.S ts = some (us, S') → RepL c ts vs →
  closedL us = true ∧ ∃ ls, S' = setRo c.S ls ∧ RepL (ctxShut c ls) us vs := by
 have key : ∀ (ts : List T) (ls0 : List Loc) {us : List T} {S' : Store} {vs : List Value}, freezeL (setRo c.S ls0) ts = some (us, S') → RepL (ctxShut c ls0) ts vs →
   closedL us = true ∧ ∃ ls, S' = setRo c.S ls ∧ (∀ b, (ctxShut c ls0).Sh b → (ctxShut c ls).Sh b) ∧ RepL (ctxShut c ls) us vs := by
  intro ts
  induction ts with
  | nil =>
   intro ls0 us S' vs h hv
   simp only [freezeL, Option.some.injEq, Prod.mk.injEq] at h
   obtain ⟨rfl, rfl⟩ := h
   cases hv
   exact ⟨rfl, ls0, rfl, fun _ h => h, .nil⟩
  | cons x xs ih =>
   intro ls0 us S' vs h hv
   simp only [freezeL] at h
   split at h
   ·rename_i y S1 h1
    split at h
    ·rename_i ys S2 h2
     simp only [Option.some.injEq, Prod.mk.injEq] at h
     obtain ⟨rfl, rfl⟩ := h
     cases hv with
     | cons _ v _ vs hx hr =>
      obtain ⟨hcy, ls1, rfl, hy⟩ := freeze_rep (ctxShut_rel hR ls0) h1 hx
      have hSS : setRo (setRo c.S ls0) ls1 = setRo c.S (ls0 ++ ls1) := by
       funext m
       simp only [setRo]
       cases c.S m with
       | none => rfl
       | some o => cases o <;> simp [Bool.or_assoc]
      have hsub : ∀ b, (ctxShut (ctxShut c ls0) ls1).Sh b → (ctxShut c (ls0 ++ ls1)).Sh b := by
       rintro b ((h | ⟨l, hl, hD, ho, hb⟩) | ⟨l, hl, hD, ⟨ro, g, sz, e, zs, hS⟩, hb⟩)
       ·exact .inl h
       ·exact .inr ⟨l, by simp at hl ⊢; exact .inl hl, hD, ho, hb⟩
       ·refine .inr ⟨l, by simp at hl ⊢; exact .inr hl, hD, ?_, hb⟩
        rcases setRo_inv hS with ⟨ro', g', sz', e', xs', h3, _⟩ | ⟨_, h3⟩
        ·exact ⟨_, _, _, _, _, h3⟩
        ·exact absurd rfl (h3 _ _ _ _ _)
      have hsub0 : ∀ b, (ctxShut c ls0).Sh b → (ctxShut c (ls0 ++ ls1)).Sh b := fun b hb => hsub b (.inl hb)
      have hkr : Kept (ctxShut c ls0) (ctxShut c (ls0 ++ ls1)) := by
       have hk := ctxShut_kept (ctxShut c ls0) ls1
       refine ⟨fun b hb => ⟨hsub0 b hb, rfl⟩, fun l hl => ?_, fun l ro g sz e zs hS => ?_, fun l hS => ?_⟩
       ·obtain ⟨⟨hD, cs, hS⟩, hβ⟩ := hk.box l hl
        exact ⟨⟨hD, cs, by simp only [ctxShut] at hS ⊢; rw [← hSS]; exact hS⟩, rfl⟩
       ·have := hk.arr l ro g sz e zs hS
        simp only [ctxShut, ← hSS] at this ⊢
        exact this
       ·have := hk.gone l hS
        simp only [ctxShut, ← hSS] at this ⊢
        exact this
      rw [show setRo (ctxShut c ls0).S ls1 = setRo c.S (ls0 ++ ls1) from hSS] at h2
      obtain ⟨hcs, ls, rfl, hS2, hys⟩ := ih (ls0 ++ ls1) h2 (hr.kept hkr)
      refine ⟨by simp [closedL, hcy, hcs], ls, rfl, fun b hb => hS2 b (hsub0 b hb), .cons _ _ _ _ ?_ hys⟩
      exact closed_kept (fun b hb => ⟨hS2 b (hsub b hb), rfl⟩) hcy hy
    ·cases h
   ·cases h
 intro ts us S' vs h hv
 have h0 : setRo c.S [] = c.S := by
  funext m
  simp only [setRo]
  cases c.S m with
  | none => rfl
  | some o => cases o <;> simp
 obtain ⟨h1, ls, h2, _, h3⟩ := key ts [] (by rw [h0]; exact h) (hv.kept (ctxShut_kept c []))
 exact ⟨h1, ls, h2, h3⟩
end Go.TM
