/- The code in a light form: types resolved, no marks of order; and that it comes to the same. -/
import Derived.Test.YtgmclgajlofljaaGreatDoorTmPure
set_option linter.all false
namespace Go.TM
open Go
inductive X where
 | mv (x : Operand)
 | pick (c a b : Operand)
 | bin (op : BinOp) (x y : Operand)
 | beq (ne : Bool) (x y : Operand)
 | not (x : Operand)
 | neg (x : Operand)
 | lenS (x : Operand)
 | idxS (x i : Operand)
 | cutS (x : Operand) (lo hi : Option Operand)
 | cv (k : IntKind) (x : Operand)
 | i2s (x : Operand)
 | mm (mx : Bool) (x y : Operand)
 | len (x : Operand)
 | capn (x : Operand)
 | load (ag : Bool) (n : Nat) (a : Operand)
 | store (n : Nat) (a v : Operand)
 | faddr (o : Nat) (a : Operand)
 | field (o n : Nat) (ag : Bool) (x : Operand)
 | aidx (ag : Bool) (sz n : Nat) (x i : Operand)
 | iaddr (sz : Nat) (x i : Operand)
 | iaddrA (len sz : Nat) (x i : Operand)
 | mk (sz : Nat) (e : TypeId) (z : T) (l c : Operand)
 | bsl (e : TypeId) (sz : Nat) (parts : List Operand)
 | app (e : TypeId) (sz : Nat) (x y : Operand)
 | cpy (x y : Operand)
 | slc (sz : Nat) (x : Operand) (lo hi mx : Option Operand)
 | bld (ps : List (Nat × Nat)) (z : List T) (parts : List (Nat × Operand))
 | alloc (e : TypeId) (z : List T)
 | box (e : TypeId) (x : Operand)
 | s2b (x : Operand)
 | b2s (x : Operand)
 | mkf (f : FuncId) (caps : List Operand)
 | ext (x : Operand) (j : Nat)
 | call (f : Operand) (args : List Operand)
 | nck (x : Operand)
 | bad
 | peq (ng : Bool) (x y : Operand)
 | toU (x : Operand)
 | ofU (us : List TypeId) (n : Nat) (x : Operand)
 | apps (e : TypeId) (x y : Operand)
 | appz (e : TypeId) (sz : Nat) (z : T) (x y : Operand)
 | usd (x : Operand)
 | ustr (e : TypeId) (p n : Operand)
 deriving Inhabited
def loadR (ag : Bool) (n : Nat) (S : Store) : T → Option T
 | .ptr l off => match S l with
  | some (.box bt cs) => readAt ag n cs off
  | _ => none
 | .lptr _ xs i off => match xs[i]? with
  | some x => readAt ag n x.cells off
  | none => none
 | .aptr l g i off => match S l with
  | some (.arr _ g' _ _ xs) => if g = g' then match xs[i]? with
    | some x => readAt ag n x.cells off
    | none => none
   else none
  | _ => none
 | _ => none
def storeR (n : Nat) (S : Store) (a v : T) : Option Store :=
 if v.cells.length = n then match a with
  | .ptr l off => match S l with
   | some (.box bt cs) => if off + n ≤ cs.length ∧ lvle l.1 v = true ∧ v.cells.all one = true then some (upd S l (.box bt (splice cs off v.cells))) else none
   | _ => none
  | .aptr l g i off => match freeze S v with
   | some (u, S1) => match S1 l with
    | some (.arr ro g' sz e xs) => if g = g' ∧ ro = false ∧ i < xs.length ∧ off = 0 ∧ n = sz ∧ u.cells.length = sz then
      some (upd S1 l (.arr false g' sz e (xs.set i u)))
     else none
    | _ => none
   | none => none
  | _ => none
 else none
def faddrR (o : Nat) : T → Option T
 | .ptr l off => some (.ptr l (off + o))
 | .lptr sz xs i off => some (.lptr sz xs i (off + o))
 | .aptr l g i off => some (.aptr l g i (off + o))
 | _ => none
def iaddrR (sz : Nat) (S : Store) (x i : T) : Option T :=
 match i with
 | .sc (.int _ n) => match x with
  | .lst sz' xs => if sz = sz' then (bif idxOk n xs.length then some (.lptr sz xs n.toNat 0) else none) else none
  | .own l g off len => match S l with
   | some (.arr _ g' sz' _ xs) => if g = g' ∧ sz = sz' ∧ off + len ≤ xs.length then (bif idxOk n len then some (.aptr l g (off + n.toNat) 0) else none) else none
   | _ => none
  | _ => none
 | _ => none
def iaddrAR (len sz : Nat) (x i : T) : Option T :=
 match i, x with
 | .sc (.int _ n), .ptr l off => bif idxOk n len then some (.ptr l (off + n.toNat * sz)) else none
 | _, _ => none
def newArrR (L : Nat) (d : Option Tmp) (sz : Nat) (e : TypeId) (xs : List T) (S : Store) : Option (T × Store) :=
 match d with
 | some d => if (S (L, d)).isNone then some (.own (L, d) 0 0 xs.length, upd S (L, d) (.arr false 0 sz e xs)) else none
 | none => none
def newBoxR (L : Nat) (d : Option Tmp) (bt : TypeId) (cs : List T) (S : Store) : Option (T × Store) :=
 match d with
 | some d => if (S (L, d)).isNone && lvleL L cs && cs.all one then some (.ptr (L, d) 0, upd S (L, d) (.box bt cs)) else none
 | none => none
def peqR : T → T → Option Bool
 | .sc (.pointer none), .sc (.pointer none) => some true
 | x, y => ptrEq x y
def toUR (S : Store) : T → Option T
 | .ptr l off => match S l with
  | some (.box _ cs) => if off < cs.length then some (.ptr l off) else none
  | _ => none
 | _ => none
def ofC (bt m n : Nat) : Nat := if m = n then bt else bt + 1000000 * m
def ofUR (us : List TypeId) (n : Nat) (S : Store) : T → Option T
 | .ptr l off => match S l with
  | some (.box bt cs) => if us.contains (ofC bt cs.length n) = true ∧ off = 0 ∧ bt < 1000000 ∧ 0 < cs.length then some (.ptr l off) else none
  | _ => none
 | _ => none
def ustrR (e : TypeId) (S : Store) : T → T → Option (T × Store)
 | .sc (.pointer none), .sc (.int .i64 n) => if n = 0 then some (.sc (.string .empty), S) else none
 | .aptr l g i off, .sc (.int .i64 n) => match S l with
  | some (.arr ro g' sz e' xs) => if g = g' ∧ ro = false ∧ i = 0 ∧ off = 0 ∧ sz = 1 ∧ e' = e ∧ 0 < n ∧ n.toNat ≤ xs.length ∧ n ≤ 9223372036854775807 ∧ (xs.take n.toNat).all isByte = true then
    (bytesV (xs.take n.toNat)).map fun bs => (.sc (.string ⟨bs.toArray⟩), setRo S [l]) else none
  | _ => none
 | _, _ => none
def mkR (L : Nat) (d : Option Tmp) (S : Store) (sz : Nat) (e : TypeId) (z : T) : T → T → Option (T × Store)
 | .sc (.int _ n), .sc (.int _ m) => if 0 ≤ n ∧ n ≤ m ∧ m ≤ maxRow then newArrR L d sz e (List.replicate n.toNat z) S else none
 | _, _ => none
def bornR (sh : Bool) (L : Nat) (d : Option Tmp) (sz : Nat) (e : TypeId) (xs : List T) (S : Store) : Option (T × Store) :=
 if sh = true then some (.lst sz xs, S) else newArrR L d sz e xs S
def bslR (om : FuncId → List Nat) (L : Nat) (d : Option Tmp) (S : Store) (e : TypeId) (sz : Nat) (ts : List T) : Option (T × Store) :=
 match freezeL S ts with
 | some (us, S1) => if us.all fun u => decide (u.cells.length = sz) then bornR ((om 1000000002).contains (e + 1000000 * L)) L d sz e us S1 else none
 | none => none
def appR (om : FuncId → List Nat) (L : Nat) (d : Option Tmp) (S : Store) (e : TypeId) (sz : Nat) (x y : T) : Option (T × Store) :=
 match elemsOf S y with
 | some (sy, ys, _) =>
  if sy = none ∨ sy = some sz then
   match x with
   | .sc (.slice none _ _) => if ys.isEmpty then some (x, S) else if ys.length ≤ maxRow then newArrR (lowP om L d e).1 (lowP om L d e).2 sz e ys S else none
   | .own l g off len => match S l with
    | some (.arr ro g' sz' e' xs) => if g = g' ∧ len ≤ xs.length then
      (if ys.isEmpty then some (x, S)
       else if ro = false ∧ off = 0 ∧ sz' = sz ∧ e' = e ∧ len + ys.length ≤ maxRow then
       some (.own l (g + 1) 0 (len + ys.length), upd S l (.arr false (g + 1) sz e (xs.take len ++ ys)))
       else none) else none
    | _ => none
   | _ => none
  else none
 | none => none
def cpyR (S : Store) (x y : T) : Option (T × Store) :=
 match elemsOf S y with
 | some (sy, ys, _) =>
  match x with
  | .own l g off len => match S l with
   | some (.arr ro g' sz' e xs) => if ro = false ∧ g = g' ∧ sz' = 1 ∧ (sy = none ∨ sy = some 1) ∧ off + len ≤ xs.length then
     some (.sc (.int .i64 (min ys.length len : Nat)), upd S l (.arr false g 1 e (splice xs off (ys.take (min ys.length len))))) else none
   | _ => none
  | _ => none
 | none => none
def slcR (sz : Nat) (s : Slots) (S : Store) (lo hi mx : Option Operand) : T → Option T
 | .lst sz' xs => if sz = sz' then cutT s lo hi mx xs.length (fun l h => .lst sz ((xs.take h).drop l)) else none
 | .own lc g off len => match S lc with
  | some (.arr _ g' sz' _ _) => if g = g' ∧ sz = sz' then cutT s lo hi mx len (fun l h => .own lc g (off + l) (h - l)) else none
  | _ => none
 | .sc (.slice none n c) => if (n = 0 ∧ c = 0) ∧ (lo.isNone && hi.isSome && mx.isNone) = true then cutT s lo hi mx 0 (fun _ _ => .sc (.slice none 0 0)) else none
 | _ => none
def b2sR (S : Store) (x : T) : Option T :=
 match elemsOf S x with
 | some (some 1, xs, _) => (bytesV xs).map fun bs => .sc (.string ⟨bs.toArray⟩)
 | some (none, _, _) => some (.sc (.string .empty))
 | _ => none
def callR (call : CallF) (om : FuncId → List Nat) (L : Nat) (d : Option Tmp) (S : Store) (f : T) (args : List T) : Option (T × Store) :=
 (callT call om L d S f args).map fun r => (r.t, r.S)
def idxSR (b : ByteArray) (n : Int) : Option T :=
 match (if 0 ≤ n then b[n.toNat]? else none) with
 | some u => some (.sc (.int .u8 u.toNat))
 | none => none
def cutSR (s : Slots) (b : ByteArray) (lo hi : Option Operand) : Option T :=
 match bndO s 0 lo, bndO s b.size hi with
 | some l, some h => if 0 ≤ l ∧ l ≤ h ∧ h ≤ b.size then some (.sc (.string (b.extract l.toNat h.toNat))) else none
 | _, _ => none
def evX (call : CallF) (om : FuncId → List Nat) (L : Nat) (d : Option Tmp) (s : Slots) (S : Store) : X → Option (T × Store)
 | .mv x => (ev s x).map fun t => (t, S)
 | .pick c a b => match ev s c, ev s a, ev s b with
  | some (.sc (.bool q)), some x, some y => some (bif q then x else y, S)
  | _, _, _ => none
 | .bin op x y => match ev s x, ev s y with
  | some (.sc a), some (.sc b) => (binS op a b).map fun v => (.sc v, S)
  | _, _ => none
 | .beq ne x y => match ev s x, ev s y with
  | some (.sc (.bool a)), some (.sc (.bool b)) => some (.sc (.bool (bif ne then !(a == b) else a == b)), S)
  | _, _ => none
 | .not x => match ev s x with
  | some (.sc (.bool a)) => some (.sc (.bool !a), S)
  | _ => none
 | .neg x => match ev s x with
  | some (.sc (.int k a)) => some (.sc (.int k (k.wrap (0 - a))), S)
  | _ => none
 | .lenS x => match ev s x with
  | some (.sc (.string b)) => some (.sc (.int .i64 b.size), S)
  | _ => none
 | .idxS x i => match ev s x, ev s i with
  | some (.sc (.string b)), some (.sc (.int _ n)) => (idxSR b n).map fun t => (t, S)
  | _, _ => none
 | .cutS x lo hi => match ev s x with
  | some (.sc (.string b)) => (cutSR s b lo hi).map fun t => (t, S)
  | _ => none
 | .cv k x => match ev s x with
  | some (.sc (.int _ a)) => some (.sc (.int k (k.wrap a)), S)
  | _ => none
 | .i2s x => match ev s x with
  | some (.sc (.int _ a)) => some (.sc (.string (Utf8.encode a)), S)
  | _ => none
 | .mm mx x y => match ev s x, ev s y with
  | some (.sc (.int k a)), some (.sc (.int _ b)) => some (.sc (.int k (bif mx then (if b > a then b else a) else (if b < a then b else a))), S)
  | _, _ => none
 | .len x => match ev s x with
  | some (.lst _ xs) => some (.sc (.int .i64 xs.length), S)
  | some (.own _ _ _ len) => some (.sc (.int .i64 len), S)
  | some (.sc (.slice none n c)) => if n = 0 ∧ c = 0 then some (.sc (.int .i64 0), S) else none
  | _ => none
 | .capn x => match ev s x with
  | some (.sc (.slice none n c)) => if n = 0 ∧ c = 0 then some (.sc (.int .i64 0), S) else none
  | _ => none
 | .load ag n a => match ev s a with
  | some x => (loadR ag n S x).map fun t => (t, S)
  | none => none
 | .store n a v => match ev s a, ev s v with
  | some x, some y => (storeR n S x y).map fun S' => (.tup [], S')
  | _, _ => none
 | .faddr o a => match ev s a with
  | some x => (faddrR o x).map fun t => (t, S)
  | none => none
 | .aidx ag sz n x i => match ev s x, ev s i with
  | some (.agg cs), some (.sc (.int _ m)) => bif idxOk m n then (readAt ag sz cs (m.toNat * sz)).map fun t => (t, S) else none
  | _, _ => none
 | .field o n ag x => match ev s x with
  | some (.agg cs) => (readAt ag n cs o).map fun t => (t, S)
  | _ => none
 | .iaddr sz x i => match ev s x, ev s i with
  | some y, some j => (iaddrR sz S y j).map fun t => (t, S)
  | _, _ => none
 | .iaddrA len sz x i => match ev s x, ev s i with
  | some y, some j => (iaddrAR len sz y j).map fun t => (t, S)
  | _, _ => none
 | .mk sz e z l c => match ev s l, ev s c with
  | some x, some y => mkR L d S sz e z x y
  | _, _ => none
 | .bsl e sz parts => match evL s parts with
  | some ts => bslR om L d S e sz ts
  | none => none
 | .app e sz x y => match ev s x, ev s y with
  | some a, some b => appR om L d S e sz a b
  | _, _ => none
 | .cpy x y => match ev s x, ev s y with
  | some a, some b => cpyR S a b
  | _, _ => none
 | .slc sz x lo hi mx => match ev s x with
  | some y => (slcR sz s S lo hi mx y).map fun t => (t, S)
  | none => none
 | .bld ps z parts => (fillT ps s z parts).map fun cs => (.agg cs, S)
 | .alloc e z => newBoxR L d e z S
 | .box e x => match ev s x with
  | some t => newBoxR L d e t.cells S
  | none => none
 | .s2b x => match ev s x with
  | some (.sc (.string b)) => some (.lst 1 (bytesT b), S)
  | _ => none
 | .b2s x => match ev s x with
  | some y => (b2sR S y).map fun t => (t, S)
  | none => none
 | .mkf f caps => (evL s caps).map fun cs => (.clo f cs, S)
 | .ext x j => match ev s x with
  | some (.tup ts) => (ts[j]?).map fun t => (t, S)
  | _ => none
 | .call f args => match ev s f, evL s args with
  | some t, some as => callR call om L d S t as
  | _, _ => none
 | .nck x => match ev s x with
  | some (.ptr l off) => some (.ptr l off, S)
  | _ => none
 | .bad => none
 | .peq ng x y => match ev s x, ev s y with
  | some a, some b => (peqR a b).map fun r => (.sc (.bool (r != ng)), S)
  | _, _ => none
 | .toU x => match ev s x with
  | some t => (toUR S t).map fun u => (u, S)
  | none => none
 | .ofU u n x => match ev s x with
  | some t => (ofUR u n S t).map fun u => (u, S)
  | none => none
 | .apps e x y => match ev s x, ev s y with
  | some a, some (.sc (.string b)) => appR om L d S e 1 a (.lst 1 (bytesT b))
  | _, _ => none
 | .appz e sz z x y => match ev s x, ev s y with
  | some (.sc (.slice none _ _)), some (.sc (.int _ n)) => if 0 < n ∧ n ≤ maxRow then newArrR L d sz e (List.replicate n.toNat z) S else none
  | _, _ => none
 | .usd x => match ev s x with
  | some t => (usdT S t).map fun u => (u, S)
  | none => none
 | .ustr e p n => match ev s p, ev s n with
  | some a, some b => ustrR e S a b
  | _, _ => none
def ofUok (P : Program) (u : TypeId) (n : Nat) : List TypeId := ((List.range P.types.size).filter fun v => Nat.ble (P.cellsOf v) (n + 4) && (Nat.blt 0 (P.cellsOf v) && (Nat.blt v 1000000 && liesAt P P.depth v 1 0 u 1))).map fun v => ofC v (P.cellsOf v) n
def toX (P : Program) (o : Oper) : Option X :=
 match o.op with
 | .move x | .assign x => some (.mv x)
 | .pick c a b => some (.pick c a b)
 | .binOp op t x y _ => match P.underlying t with
  | some .bool => match op with
   | .eql => some (.beq false x y)
   | .neq => some (.beq true x y)
   | _ => none
  | some (.int _) | some .string => some (.bin op x y)
  | some (.pointer e) => if (P.info? e).isSome = true then (match op with
   | .eql => some (.peq false x y)
   | .neq => some (.peq true x y)
   | _ => none) else none
  | _ => none
 | .unOp op _ x => match op with
  | .not => some (.not x)
  | .neg => some (.neg x)
  | _ => none
 | .convert src dst x => match P.underlying src, P.underlying dst with
  | some (.int _), some (.int k) => some (.cv k x)
  | some (.int _), some .string => some (.i2s x)
  | some .string, some (.slice e) => match P.underlying e, szOf P e with
   | some (.int .u8), some 1 => some (.s2b x)
   | _, _ => none
  | some (.slice e), some .string => match P.underlying e with
   | some (.int .u8) => some (.b2s x)
   | _ => none
  | some (.pointer t), some .unsafePointer => match szOf P t with
   | some n => if n = 0 then none else some (.toU x)
   | none => none
  | some .unsafePointer, some (.pointer u) => match szOf P u with
   | some n => some (.ofU (ofUok P u n) n x)
   | none => none
  | _, _ => none
 | .index t x i => match P.underlying t with
  | some .string => some (.idxS x i)
  | some (.array len e) => match szOf P e, isAggT P e with
   | some sz, some ag => some (.aidx ag sz len x i)
   | _, _ => none
  | _ => none
 | .slice t x lo hi mx => match P.underlying t with
  | some .string => match mx with
   | none => some (.cutS x lo hi)
   | some _ => none
  | some (.slice e) => match szOf P e with
   | some sz => some (.slc sz x lo hi mx)
   | none => none
  | _ => none
 | .alloc e => (zeroCellsT P e).map (.alloc e)
 | .box e x => some (.box e x)
 | .build t ps => match placesT P t, zeroCellsT P t with
  | some pl, some z => some (.bld pl z ps.toList)
  | _, _ => none
 | .buildSlice t len ps => match elemT P t with
  | some (e, sz) => if (ps.toList.map (·.1) = List.range len ∧ len ≤ 4096) ∧ ((zeroT P e).isSome = true ∧ sz ≤ 1000) then some (.bsl e sz (ps.toList.map (·.2))) else none
  | none => none
 | .load t a => match isAggT P t, szOf P t with
  | some ag, some n => some (.load ag n a)
  | _, _ => none
 | .store t a v => (szOf P t).map fun n => .store n a v
 | .nilCheck x => some (.nck x)
 | .makeFunc (.func f) first caps => if first.size = 0 then (if Nat.blt f 1000000000 = true then some (.mkf f caps.toList) else none) else if caps.size = 0 then some (.mkf (Nat.add f 1000000000) first.toList) else none
 | .makeSlice t l c => match elemT P t with
  | some (e, sz) => (zeroT P e).map fun z => .mk sz e z l c
  | none => none
 | .fieldAddr t x f => match fieldT P t f with
  | some (o, n, _) => if n = 0 then none else some (.faddr o x)
  | none => none
 | .field t x f => match fieldT P t f with
  | some (off, n, ft) => (isAggT P ft).map fun ag => .field off n ag x
  | none => none
 | .indexAddr t x i => match P.underlying t with
  | some (.slice e) => (szOf P e).map fun sz => .iaddr sz x i
  | some (.array len e) => (szOf P e).map fun sz => .iaddrA len sz x i
  | _ => none
 | .extract x j => some (.ext x j)
 | .call c => match c.callee, c.args.toList, c.argTypes.toList with
  | .builtin .len, [x], [t] => match P.underlying t with
   | some .string => some (.lenS x)
   | some (.slice e) => (szOf P e).map fun _ => .len x
   | _ => none
  | .builtin .cap, [x], [t] => match P.underlying t with
   | some (.slice e) => (szOf P e).map fun _ => .capn x
   | _ => none
  | .builtin .min, [x, y], _ => some (.mm false x y)
  | .builtin .max, [x, y], _ => some (.mm true x y)
  | .builtin .append, [x, y], [t, u] => match elemT P t with
   | some (e, sz) => if t = u ∧ (zeroT P e).isSome = true then some (.app e sz x y) else match P.underlying u with
     | some .string => if sz = 1 ∧ (zeroT P e).isSome = true then some (.apps e x y) else none
     | some (.int _) => (zeroT P e).map fun z => .appz e sz z x y
     | _ => none
   | none => none
  | .builtin .unsafeSliceData, [x], _ => some (.usd x)
  | .builtin .unsafeString, [p, n], [pt, _] => match P.underlying pt with
   | some (.pointer e) => if P.cellsOf e = 1 then some (.ustr e p n) else none
   | _ => none
  | .builtin .copy, [x, y], [t, _] => match elemT P t with
   | some (_, sz) => if sz = 1 then some (.cpy x y) else none
   | none => none
  | .value f, args, _ => if isNoEscO P f = true then (match args with
    | [x] => some (.nck x)
    | _ => none) else some (.call f args)
  | _, _, _ => none
 | _ => none
def toXd (P : Program) (o : Oper) : X := (toX P o).getD .bad
def toX1 (P : Program) (o : Oper) : Option X := some (toXd P o)
end Go.TM
