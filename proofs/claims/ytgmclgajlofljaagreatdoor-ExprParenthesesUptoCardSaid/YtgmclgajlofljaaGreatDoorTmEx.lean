/- Expressions as Lean values, and as trees. -/
import Derived.Test.YtgmclgajlofljaaGreatDoorTmRun
set_option linter.all false
namespace Go.TM
open Go
inductive Ex' where
 | mk (op : Nat) (name : List UInt8) (bn : Bool) (bits : List Nat) (vs : Bool) (an : Bool) (args : List Ex') (sig width : Int) (sg : Bool)
instance : Inhabited Ex' := ⟨.mk 0 [] true [] false true [] 0 0 false⟩
namespace Ex'
def op : Ex' → Nat | mk o _ _ _ _ _ _ _ _ _ => o
def name : Ex' → List UInt8 | mk _ n _ _ _ _ _ _ _ _ => n
def bits : Ex' → List Nat | mk _ _ _ b _ _ _ _ _ _ => b
def vs : Ex' → Bool | mk _ _ _ _ v _ _ _ _ _ => v
def args : Ex' → List Ex' | mk _ _ _ _ _ _ a _ _ _ => a
def bn : Ex' → Bool | mk _ _ b _ _ _ _ _ _ _ => b
def an : Ex' → Bool | mk _ _ _ _ _ a _ _ _ _ => a
def sig : Ex' → Int | mk _ _ _ _ _ _ _ s _ _ => s
def width : Ex' → Int | mk _ _ _ _ _ _ _ _ w _ => w
def sg : Ex' → Bool | mk _ _ _ _ _ _ _ _ _ s => s
mutual
def t : Ex' → T
 | mk op name bn bits vs an args sig width sg => .agg [.sc (.int .u8 (op : Int)), .sc (str name), gs bn 1 (ul bits), .sc (.bool vs), gs an 8 (tL args), .sc (.int .i64 sig), .sc (.int .i64 width), .sc (.bool sg)]
def tL : List Ex' → List T
 | [] => []
 | x :: xs => t x :: tL xs
end
theorem tL_ml : ∀ xs, tL xs = ml t xs
 | [] => rfl
 | x :: xs => by simp only [tL, tL_ml xs]; rfl
theorem t_mk (op : Nat) (name : List UInt8) (bn : Bool) (bits : List Nat) (vs an : Bool) (args : List Ex') (sig width : Int) (sg : Bool) :
  t (mk op name bn bits vs an args sig width sg) = .agg [.sc (.int .u8 (op : Int)), .sc (str name), gs bn 1 (ul bits), .sc (.bool vs), gs an 8 (ml t args), .sc (.int .i64 sig), .sc (.int .i64 width), .sc (.bool sg)] := by
 rw [t, tL_ml]
theorem ind {P : Ex' → Prop} (h : ∀ op name bn bits vs an args sig width sg, (∀ x ∈ args, P x) → P (mk op name bn bits vs an args sig width sg)) : ∀ x, P x := by
 intro x
 exact Ex'.rec (motive_1 := P) (motive_2 := fun l => ∀ x ∈ l, P x) (fun op name bn bits vs an args sig width sg ih => h op name bn bits vs an args sig width sg ih)
  (fun x hx => by cases hx) (fun x xs hx hxs y hy => by
   rcases List.mem_cons.1 hy with rfl | hy
   ·exact hx
   ·exact hxs y hy) x
theorem t_closed : ∀ x : Ex', closed (t x) = true := by
 refine ind fun op name bn bits vs an args sig width sg ih => ?_
 have h : closedL (ml t args) = true := by
  induction args with
  | nil => rfl
  | cons x xs h2 => simp only [ml, List.map_cons, closedL, Bool.and_eq_true] at h2 ⊢; exact ⟨ih x (by simp), h2 fun y hy => ih y (by simp [hy])⟩
 rw [t_mk]
 simp [h, ul_closed]
theorem tL_closed (xs : List Ex') : closedL (ml t xs) = true := ml_closed t t_closed xs
theorem t_agg (x : Ex') : t x = .agg [.sc (.int .u8 (x.op : Int)), .sc (str x.name), gs x.bn 1 (ul x.bits), .sc (.bool x.vs), gs x.an 8 (ml t x.args), .sc (.int .i64 x.sig), .sc (.int .i64 x.width), .sc (.bool x.sg)] := by
 cases x; rw [t_mk]; rfl
theorem t_cells (x : Ex') : (t x).cells = [.sc (.int .u8 (x.op : Int)), .sc (str x.name), gs x.bn 1 (ul x.bits), .sc (.bool x.vs), gs x.an 8 (ml t x.args), .sc (.int .i64 x.sig), .sc (.int .i64 x.width), .sc (.bool x.sg)] := by
 rw [t_agg]; rfl
theorem t_c0 (x : Ex') : (t x).cells[0]? = some (.sc (.int .u8 (x.op : Int))) := by rw [t_cells]; rfl
theorem t_c1 (x : Ex') : (t x).cells[1]? = some (.sc (str x.name)) := by rw [t_cells]; rfl
theorem t_c2 (x : Ex') : (t x).cells[2]? = some (gs x.bn 1 (ul x.bits)) := by rw [t_cells]; rfl
theorem t_c3 (x : Ex') : (t x).cells[3]? = some (.sc (.bool x.vs)) := by rw [t_cells]; rfl
theorem t_c4 (x : Ex') : (t x).cells[4]? = some (gs x.an 8 (ml t x.args)) := by rw [t_cells]; rfl
theorem t_c5 (x : Ex') : (t x).cells[5]? = some (.sc (.int .i64 x.sig)) := by rw [t_cells]; rfl
theorem t_c6 (x : Ex') : (t x).cells[6]? = some (.sc (.int .i64 x.width)) := by rw [t_cells]; rfl
theorem t_c7 (x : Ex') : (t x).cells[7]? = some (.sc (.bool x.sg)) := by rw [t_cells]; rfl
theorem t_val (x : Ex') : readAt true 2 (t x).cells 2 = some (.agg [gs x.bn 1 (ul x.bits), .sc (.bool x.vs)]) := by rw [t_cells]; rfl
theorem gx_mem (xs : List Ex') (i : Nat) (h : i < xs.length) : gx xs i ∈ xs := by unfold gx; simp [h]
theorem t_snap (x : Ex') (S : Store) : snap S (t x) = some (t x, []) := by
 cases x; rw [t_mk]; simp
theorem t_ren (x : Ex') (S : Store) (f : Loc → Option Loc) (z : Loc → Bool) : rename S f z (t x) = t x := by
 cases x; rw [t_mk]; simp
theorem t_locs (x : Ex') (k : Nat) : locsOf k (t x) = [] := by
 cases x; rw [t_mk]; simp
theorem t_lv (x : Ex') (k : Nat) : lvle k (t x) = true := by
 cases x; rw [t_mk]; simp
theorem t_len (x : Ex') : (t x).cells.length = 8 := by cases x; rw [t_mk]; rfl
theorem t_one (x : Ex') : (t x).cells.all one = true := by cases x; rw [t_mk]; simp
theorem t_read8 (x : Ex') : readAt true 8 (t x).cells 0 = some (t x) := by cases x; rw [t_mk]; rfl
theorem t_splice (x y : Ex') : splice (t y).cells 0 (t x).cells = (t x).cells := by rw [t_cells, t_cells]; rfl
theorem t_splice0 (x : Ex') (a b c d e f g h : T) : splice [a, b, c, d, e, f, g, h] 0 (t x).cells = (t x).cells := by rw [t_cells]; rfl
theorem t_renL (x : Ex') (S : Store) (f : Loc → Option Loc) (z : Loc → Bool) : renameL S f z (t x).cells = (t x).cells := by rw [t_cells]; simp
theorem t_lvL (x : Ex') (k : Nat) : lvleL k (t x).cells = true := by rw [t_cells]; simp
theorem t_take (x : Ex') : List.take 8 (t x).cells = (t x).cells := by rw [t_cells]; rfl
theorem t_drop (x : Ex') : List.drop 8 (t x).cells = [] := by rw [t_cells]; rfl
theorem t_td2 (x : Ex') : List.take 2 (List.drop 2 (t x).cells) = [gs x.bn 1 (ul x.bits), .sc (.bool x.vs)] := by rw [t_cells]; rfl
theorem agg_cells (x : Ex') : T.agg (t x).cells = t x := by cases x; rw [t_mk]; rfl
attribute [simp] t_closed tL_closed t_snap t_ren t_locs t_lv t_len t_one agg_cells t_c0 t_c1 t_c2 t_c3 t_c4 t_c5 t_c6 t_c7 t_renL t_lvL t_take t_drop t_td2
attribute [simp high] t_read8 t_val t_splice t_splice0
theorem ind2 {P : Ex' → Prop} (h : ∀ x : Ex', (∀ i, i < x.args.length → P (gx x.args i)) → P x) : ∀ x, P x :=
 ind fun op name bn bits vs an args sig width sg ih => h _ fun i hi => ih _ (gx_mem _ i hi)
theorem ind3 {P : Ex' → Prop} (h : ∀ x : Ex', (∀ y, y ∈ x.args → P y) → P x) : ∀ x, P x :=
 ind fun op name bn bits vs an args sig width sg ih => h _ ih
end Ex'
end Go.TM
