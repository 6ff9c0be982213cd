/-
  An evaluator of code over typed states, and why it is sound, part 1. No conditions.
-/
import Derived.Calls
import Derived.Below
import Derived.Laws.AppendOwn
import Derived.Laws.Entries
import Derived.Laws.Cells
import Derived.Laws.StructEq
import Derived.Laws.Small
import Derived.Great.BuildSlice
import Derived.Laws.MakeOwn
import Derived.Laws.Tables
set_option linter.unusedVariables false
namespace Go.Pm

inductive Ty where
  | int (k : IntKind) | bool | str | ii | sl (t : Ty)
  deriving DecidableEq
@[reducible] def Ty.den : Ty → Type
  | .int _ => Int
  | .bool => Bool
  | .str => ByteArray
  | .ii => Int × Int
  | .sl t => List t.den
def Ty.dflt : (t : Ty) → t.den
  | .int _ => (0 : Int)
  | .bool => false
  | .str => ByteArray.empty
  | .ii => ((0 : Int), (0 : Int))
  | .sl _ => []
def Ty.sz : Ty → Nat
  | .ii => 2
  | _ => 1
def _root_.Go.IntKind.bytesPm : IntKind → Nat
  | .i8 | .u8 => 1 | .i16 | .u16 => 2 | .i32 | .u32 => 4 | .i64 | .u64 => 8
def Ty.bytes : Ty → Nat
  | .int k => k.bytesPm
  | .bool => 1
  | .str => 16
  | .ii => 16
  | .sl _ => 24
/-- how many elements a row may hold -/
def Ty.lim : Ty → Nat
  | .int .i64 => 17592186044416
  | t => 140737488355328 / t.bytes
def Ty.zero : Ty → Value
  | .int k => .int k 0
  | .bool => .bool false
  | .str => .string .empty
  | .ii => .agg #[.int .i64 0, .int .i64 0]
  | .sl _ => .slice none 0 0

inductive L where
  | un
  | p (v : Value)
  | nil
  | ro (t : Ty) (xs : List t.den) (cl : Bool)
  | rw (id : Nat) (win : Option (Int × Int))
  | ptr (id : Nat) (i : Int) (f : Nat)
  | rp (t : Ty) (x : t.den) (f : Nat)
  | fn (f : FuncId) (caps : List Nat)
inductive V where
  | l (x : L)
  | agg (xs : List L)
  | tup (xs : List (Bool × List L))
inductive Obj where
  | row (e : TypeId) (t : Ty) (xs : List t.den)
  | box (e : TypeId) (xs : List L)
structure St where
  t : List (Nat × V)
  o : List (Nat × Option Obj)

def getT : List (Nat × V) → Nat → V
  | [], _ => .l .un
  | (k, v) :: r, n => cond (Nat.beq k n) v (getT r n)
/-- `some none`: was there, is handed on -/
def getO : List (Nat × Option Obj) → Nat → Option (Option Obj)
  | [], _ => none
  | (k, v) :: r, n => cond (Nat.beq k n) (some v) (getO r n)
def St.put (s : St) (d : Option Nat) (v : V) : St :=
  match d with
  | some d => { s with t := (d, v) :: s.t }
  | none => s
def St.setO (s : St) (id : Nat) (x : Obj) : St := { s with o := (id, some x) :: s.o }
def St.drop (s : St) (id : Nat) : St := { s with o := (id, none) :: s.o }

def ofLeaf : Value → L
  | .slice none 0 0 => .nil
  | .agg _ => .un
  | .tuple _ => .un
  | v => .p v
def oneCellB : Value → Bool
  | .agg _ | .tuple _ => false
  | _ => true
def ofConst : Value → V
  | .agg cs => cond (cs.toList.all oneCellB) (.agg (cs.toList.map ofLeaf)) (.l .un)
  | v => .l (ofLeaf v)
def St.ev (s : St) : Operand → V
  | .tmp t => getT s.t t
  | .const v => ofConst v
  | .func f => .l (.fn f [])
  | .global _ => .l .un

def chk {R : Type} (c : Prop) [Decidable c] (k : Option R) : Option R := if c then k else none
def atD {α : Type} (d : α) (l : List α) (i : Int) : α := l.getD i.toNat d
def byteAt (s : ByteArray) (i : Int) : Int := ((s.data.toList.getD i.toNat 0).toNat : Int)
def sub {α : Type} (l : List α) (a b : Int) : List α := (l.drop a.toNat).take (b - a).toNat
def winOf {α : Type} (l : List α) : Option (Int × Int) → List α
  | none => l
  | some (a, n) => (l.drop a.toNat).take n.toNat
def subS (s : ByteArray) (a b : Int) : ByteArray := s.extract a.toNat b.toNat

/-- the leaves of an element -/
def leavesOf : (t : Ty) → t.den → List L
  | .int k, x => [.p (.int k x)]
  | .bool, x => [.p (.bool x)]
  | .str, x => [.p (.string x)]
  | .ii, x => [.p (.int .i64 x.1), .p (.int .i64 x.2)]
  | .sl t, x => [.ro t x false]

def castTo {t u : Ty} (xs : t.den) : Option u.den := if h : t = u then some (h ▸ xs) else none
def castL {t u : Ty} (xs : List t.den) : Option (List u.den) := if h : t = u then some (h ▸ xs) else none

abbrev Look := Nat → Option (Option Obj)
/-- what a slice holds -/
def contentOf (o : Look) (t : Ty) : L → Option (List t.den)
  | .nil => some []
  | .ro u xs _ => castL xs
  | .rw id w => match o id with
    | some (some (.row _ u xs)) => castL (winOf xs w)
    | _ => none
  | _ => none
/-- an element out of a value -/
def toDen (o : Look) : (t : Ty) → V → Option t.den
  | .int k, .l (.p (.int k' n)) => cond (decide (k = k')) (some n) none
  | .bool, .l (.p (.bool b)) => some b
  | .str, .l (.p (.string s)) => some s
  | .ii, .agg [.p (.int .i64 a), .p (.int .i64 b)] => some (a, b)
  | .sl t, .l x => contentOf o t x
  | _, _ => none

/-- `id` is handed out for reading: whoever referred to it has its content now -/
def frzL (id : Nat) (t : Ty) (xs : List t.den) : L → L
  | .rw j w => cond (Nat.beq j id) (.ro t (winOf xs w) false) (.rw j w)
  | .ptr j i f => cond (Nat.beq j id) .un (.ptr j i f)
  | x => x
def frzV (id : Nat) (t : Ty) (xs : List t.den) : V → V
  | .l x => .l (frzL id t xs x)
  | .agg ls => .agg (ls.map (frzL id t xs))
  | .tup vs => .tup (vs.map fun p => (p.1, p.2.map (frzL id t xs)))
def frzO (id : Nat) (t : Ty) (xs : List t.den) : Nat × Option Obj → Nat × Option Obj
  | (k, some (.box e ls)) => (k, some (.box e (ls.map (frzL id t xs))))
  | x => x
def St.frz (s : St) (id : Nat) : St :=
  match getO s.o id with
  | some (some (.row _ t xs)) => ⟨s.t.map fun x => (x.1, frzV id t xs x.2), (id, none) :: s.o.map (frzO id t xs)⟩
  | _ => s
def frzIds (s : St) : List Nat → St
  | [] => s
  | id :: r => frzIds (s.frz id) r

def idsL : L → List Nat
  | .rw id _ => [id]
  | .ptr id _ _ => [id]
  | .fn _ caps => caps
  | _ => []
def idsV : V → List Nat
  | .l x => idsL x
  | .agg ls => ls.flatMap idsL
  | .tup vs => vs.flatMap fun p => p.2.flatMap idsL
def idsO : Option (Option Obj) → List Nat
  | some (some (.box _ ls)) => ls.flatMap idsL
  | _ => []
def rwIdsL : L → List Nat
  | .rw id _ => [id]
  | _ => []
def rwIds : V → List Nat
  | .l x => rwIdsL x
  | .agg ls => ls.flatMap rwIdsL
  | _ => []

/-- what an operation does: a value for its slot, objects that are new or written, rows that are handed out for reading -/
structure Eff where
  v : V
  o : List (Nat × Option Obj)
  frz : List Nat
def St.app (s : St) (d : Option Nat) (e : Eff) : St :=
  St.put ⟨(frzIds s e.frz).t, e.o ++ (frzIds s e.frz).o⟩ d e.v

inductive TD where
  | one (z : Value)                            -- one cell, no slice
  | slice (e : TypeId) (t : Ty)
  | struct (offs : List (Nat × Nat)) (zero : List Value)   -- where each field begins, and how many cells it has
  | ii                                         -- two numbers of int, comparable
  | other
def TD.cells : TD → List Value
  | .one z => [z]
  | .slice _ _ => [.slice none 0 0]
  | .struct _ z => z
  | .ii => [.int .i64 0, .int .i64 0]
  | .other => []
def TD.isAgg : TD → Bool
  | .struct _ _ => true
  | .ii => true
  | _ => false
def TD.offs : TD → List (Nat × Nat)
  | .struct o _ => o
  | .ii => [(0, 1), (1, 1)]
  | _ => []

def pbin (op : BinOp) (k : IntKind) (a b : Int) : Option Value :=
  match op with
  | .add => some (.int k (k.wrap (a + b)))
  | .sub => some (.int k (k.wrap (a - b)))
  | .mul => some (.int k (k.wrap (a * b)))
  | .and => some (.int k (k.wrap (BitVec.ofInt k.bits a &&& BitVec.ofInt k.bits b).toNat))
  | .or => some (.int k (k.wrap (BitVec.ofInt k.bits a ||| BitVec.ofInt k.bits b).toNat))
  | .xor => some (.int k (k.wrap (BitVec.ofInt k.bits a ^^^ BitVec.ofInt k.bits b).toNat))
  | .andNot => some (.int k (k.wrap (BitVec.ofInt k.bits a &&& ~~~ BitVec.ofInt k.bits b).toNat))
  | .eql => some (.bool (a == b))
  | .neq => some (.bool (a != b))
  | .lss => some (.bool (decide (a < b)))
  | .leq => some (.bool (decide (a ≤ b)))
  | .gtr => some (.bool (decide (a > b)))
  | .geq => some (.bool (decide (a ≥ b)))
  | _ => none

section
variable {R : Type}
abbrev pv (v : Value) : Eff := ⟨.l (.p v), [], []⟩
/-- a binary operation; the answer goes to K -/
def pmBin (td : TD) (op : BinOp) (a b : V) (K : Eff → Option R) : Option R :=
  match a, b with
  | .l (.p (.int k x)), .l (.p (.int k' y)) =>
    match op with
    | .shl => chk (0 ≤ y) (K (pv (.int k (k.wrap (x * 2 ^ (min y.toNat k.bits))))))
    | .shr => chk (0 ≤ y) (K (pv (.int k (x.fdiv (2 ^ (min y.toNat k.bits))))))
    | .quo => cond (decide (k = k')) (chk (y ≠ 0) (K (pv (.int k (k.wrap (x.tdiv y)))))) none
    | .rem => cond (decide (k = k')) (chk (y ≠ 0) (K (pv (.int k (x.tmod y))))) none
    | op => cond (decide (k = k')) (match pbin op k x y with | some v => K (pv v) | none => none) none
  | .l (.p (.bool x)), .l (.p (.bool y)) =>
    match td with
    | .one (.bool _) => match op with
      | .eql => K (pv (.bool (x == y)))
      | .neq => K (pv (.bool (!(x == y))))
      | _ => none
    | _ => none
  | .l (.p (.string x)), .l (.p (.string y)) =>
    match op with
    | .add => chk (x.size + y.size ≤ 9223372036854775807) (K (pv (.string (x ++ y))))
    | .eql => K (pv (.bool (x.toList == y.toList)))
    | .neq => K (pv (.bool (!(x.toList == y.toList))))
    | .lss => K (pv (.bool (Op.bytesLess x.toList y.toList)))
    | _ => none
  | .agg [.p (.int .i64 a), .p (.int .i64 b)], .agg [.p (.int .i64 c), .p (.int .i64 d)] =>
    match td with
    | .ii => match op with
      | .eql => K (pv (.bool ((a == c) && (b == d))))
      | .neq => K (pv (.bool (!((a == c) && (b == d)))))
      | _ => none
    | _ => none
  | _, _ => none

def pmUn (op : UnOp) (a : V) (K : Eff → Option R) : Option R :=
  match op, a with
  | .neg, .l (.p (.int k n)) => K (pv (.int k (k.wrap (0 - n))))
  | .not, .l (.p (.bool b)) => K (pv (.bool (!b)))
  | _, _ => none

def asInt (v : V) (K : Int → Option R) : Option R :=
  match v with
  | .l (.p (.int _ n)) => K n
  | _ => none

/-- the cells of an object's element -/
def objLeaves (x : Obj) (i : Int) : List L :=
  match x with
  | .box _ ls => ls
  | .row _ t xs => leavesOf t (atD t.dflt xs i)

def pick (td : TD) (ls : List L) (f : Nat) (K : Eff → Option R) : Option R :=
  match td.isAgg with
  | true => cond (Nat.beq ((ls.drop f).take td.cells.length).length td.cells.length) (K ⟨.agg ((ls.drop f).take td.cells.length), [], []⟩) none
  | false => match td.cells, ls.drop f with
    | [_], x :: _ => K ⟨.l x, [], []⟩
    | _, _ => none
def pmLoad (td : TD) (o : Look) (a : V) (K : Eff → Option R) : Option R :=
  match a with
  | .l (.ptr id i f) => match o id with
    | some (some x) => pick td (objLeaves x i) f K
    | _ => none
  | .l (.rp t x f) => pick td (leavesOf t x) f K
  | _ => none

def leavesV : V → Option (List L)
  | .l x => some [x]
  | .agg ls => some ls
  | .tup _ => none
def L.isUn : L → Bool
  | .un => true
  | _ => false
def setAt (ls : List L) (f : Nat) (new : List L) : List L := ls.take f ++ new ++ ls.drop (f + new.length)

/-- a store into an object -/
def pmStore (td : TD) (o : Look) (a v : V) (K : Eff → Option R) : Option R :=
  match a with
  | .l (.ptr id i f) => match o id with
    | some (some (.box e ls)) => match leavesV v with
      | some new => cond (Nat.beq new.length td.cells.length && Nat.ble 1 new.length && Nat.ble (f + new.length) ls.length && !new.any L.isUn)
          (K ⟨.l .un, [(id, some (.box e (setAt ls f new)))], []⟩) none
      | none => none
    | some (some (.row e t xs)) =>
      match t, xs, v, f with
      | .ii, xs, .l (.p (.int .i64 n)), 0 => cond (Nat.beq td.cells.length 1) (K ⟨.l .un, [(id, some (.row e .ii (xs.set i.toNat (n, (atD ((0 : Int), (0 : Int)) xs i).2))))], []⟩) none
      | .ii, xs, .l (.p (.int .i64 n)), 1 => cond (Nat.beq td.cells.length 1) (K ⟨.l .un, [(id, some (.row e .ii (xs.set i.toNat ((atD ((0 : Int), (0 : Int)) xs i).1, n))))], []⟩) none
      | t, xs, v, 0 => match toDen o t v with
        | some x => cond (Nat.beq td.cells.length t.sz && !(rwIds v).contains id) (K ⟨.l .un, [(id, some (.row e t (xs.set i.toNat x)))], rwIds v⟩) none
        | none => none
      | _, _, _, _ => none
    | _ => none
  | _ => none

/-- a new object at the operation's slot -/
def pmNew (mn : List Nat) (o : Look) (d : Option Nat) (x : Obj) (v : Nat → V) (fr : List Nat) (drop : List (Nat × Option Obj)) (K : Eff → Option R) : Option R :=
  match d with
  | some d => cond (mn.contains d || (o d).isSome) none (K ⟨v d, (d, some x) :: drop, fr⟩)
  | none => none

def pmIndexAddr (τ : Ty) (o : Look) (x ix : V) (K : Eff → Option R) : Option R :=
  match ix with
  | .l (.p (.int _ i)) => match x with
    | .l (.ro t xs _) => cond (decide (τ = t)) (chk (0 ≤ i ∧ i < (xs.length : Int)) (K ⟨.l (.rp t (atD t.dflt xs i) 0), [], []⟩)) none
    | .l (.rw id w) => match o id with
      | some (some (.row _ t xs)) => cond (decide (τ = t)) (match w with
        | none => chk (0 ≤ i ∧ i < (xs.length : Int)) (K ⟨.l (.ptr id i 0), [], []⟩)
        | some (a, n) => chk (0 ≤ i ∧ i < n) (K ⟨.l (.ptr id (a + i) 0), [], []⟩)) none
      | _ => none
    | _ => none
  | _ => none

def pmIndex (td : TD) (x ix : V) (K : Eff → Option R) : Option R :=
  match td, ix, x with
  | .one (.string _), .l (.p (.int _ i)), .l (.p (.string s)) => chk (0 ≤ i ∧ i < (s.size : Int)) (K (pv (.int .u8 (byteAt s i))))
  | _, _, _ => none

def optInt (v : Option V) (dflt : Int) (K : Int → Option R) : Option R :=
  match v with
  | none => K dflt
  | some v => asInt v K

/-- s[lo:hi] -/
def pmSlice (td : TD) (o : Look) (x : V) (lo hi mx : Option V) (K : Eff → Option R) : Option R :=
  match x with
  | .l (.p (.string b)) => match td, mx with
    | .one (.string _), none => optInt hi b.size fun h => optInt lo 0 fun l => chk (0 ≤ l ∧ l ≤ h ∧ h ≤ (b.size : Int)) (K (pv (.string (subS b l h))))
    | _, _ => none
  | .l (.ro t xs _) => match td with
   | .slice _ τ => cond (decide (τ = t)) (match mx with
    | none => optInt hi xs.length fun h => optInt lo 0 fun l => chk (0 ≤ l ∧ l ≤ h ∧ h ≤ (xs.length : Int)) (K ⟨.l (.ro t (sub xs l h) false), [], []⟩)
    | some m => optInt lo 0 fun l => asInt m fun m => asInt (hi.getD (.l .un)) fun h => chk (0 ≤ l ∧ l ≤ h ∧ h = m ∧ m ≤ (xs.length : Int)) (K ⟨.l (.ro t (sub xs l h) true), [], []⟩)) none
   | _ => none
  | .l (.rw id w) => match td, o id with
    | .slice _ τ, some (some (.row _ t xs)) => cond (decide (τ = t)) (match mx with
      | none => match w with
        | none => optInt hi xs.length fun h => optInt lo 0 fun l => chk (0 ≤ l ∧ l ≤ h ∧ h ≤ (xs.length : Int)) (K ⟨.l (.rw id (some (l, h - l))), [], []⟩)
        | some (a, n) => optInt hi n fun h => optInt lo 0 fun l => chk (0 ≤ l ∧ l ≤ h ∧ h ≤ n) (K ⟨.l (.rw id (some (a + l, h - l))), [], []⟩)
      | some _ => none) none
    | _, _ => none
  | _ => none

def lenOf (o : Look) : V → Option Int
  | .l (.p (.string b)) => some b.size
  | .l .nil => some 0
  | .l (.ro _ xs _) => some xs.length
  | .l (.rw id w) => match o id with
    | some (some (.row _ _ xs)) => match w with
      | some (_, n) => some n
      | none => some xs.length
    | _ => none
  | _ => none

def srcOf (o : Look) (t : Ty) : V → Option (List t.den)
  | .l x => contentOf o t x
  | _ => none

/-- append(x, y...) -/
def pmAppend (mn : List Nat) (e : TypeId) (t : Ty) (o : Look) (d : Option Nat) (x y : V) (K : Eff → Option R) : Option R :=
  match srcOf o t y with
  | none => none
  | some ys =>
    match x with
    | .l .nil => chk (ys.length ≤ t.lim) (pmNew mn o d (.row e t ys) (fun d => .l (.rw d none)) [] [] K)
    | .l (.ro u xs true) => match (castL xs : Option (List t.den)) with
      | some xs => chk (xs.length + ys.length ≤ t.lim ∧ 0 < ys.length) (pmNew mn o d (.row e t (xs ++ ys)) (fun d => .l (.rw d none)) [] [] K)
      | none => none
    | .l (.rw id none) => match o id with
      | some (some (.row e' u xs)) => match (castL xs : Option (List t.den)) with
        | some xs => cond (Nat.beq e e' && !mn.contains id)
            (chk (xs.length + ys.length ≤ t.lim) (pmNew mn o d (.row e t (xs ++ ys)) (fun d => .l (.rw d none)) [] [(id, none)] K)) none
        | none => none
      | _ => none
    | _ => none

def fold2 (f : Int → Int → Int) (k : IntKind) : Int → List V → Option Int
  | a, [] => some a
  | a, .l (.p (.int k' b)) :: r => cond (decide (k = k')) (fold2 f k (f a b) r) none
  | _, _ => none
def max2 (x y : Int) : Int := if y > x then y else x
def min2 (x y : Int) : Int := if y < x then y else x
def pmMinMax (f : Int → Int → Int) (vs : List V) (K : Eff → Option R) : Option R :=
  match vs with
  | .l (.p (.int k a)) :: r => match fold2 f k a r with
    | some n => K (pv (.int k n))
    | none => none
  | _ => none

def ofBytes (bs : List Int) : ByteArray := ⟨(bs.map fun b => UInt8.ofNat b.toNat).toArray⟩
def pmLen (td : TD) (o : Look) (x : V) (K : Eff → Option R) : Option R :=
  match lenOf o x with
  | none => none
  | some n => match td, x with
    | .one (.string _), .l (.p (.string _)) => K (pv (.int .i64 n))
    | .slice _ _, .l .nil => K (pv (.int .i64 n))
    | .slice _ _, .l (.ro _ _ _) => K (pv (.int .i64 n))
    | .slice _ _, .l (.rw _ _) => K (pv (.int .i64 n))
    | _, _ => none
def pmConvert (src dst : TD) (o : Look) (x : V) (K : Eff → Option R) : Option R :=
  match src, dst, x with
  | .one (.int _ _), .one (.int k _), .l (.p (.int _ n)) => K (pv (.int k (k.wrap n)))
  | .one (.string _), .one (.string _), .l (.p (.string s)) => K (pv (.string s))
  | .slice _ (.int .u8), .one (.string _), .l y => match contentOf o (.int .u8) y with
    | some bs => K (pv (.string (ofBytes bs)))
    | none => none
  | _, _, _ => none
end

inductive LS where
  | un | int (k : IntKind) | bool | str | ro (t : Ty) | own (e : TypeId) (t : Ty) | al (name : Nat) | ptr (name : Nat) | cn (v : Value) | fn (f : FuncId) (caps : List Nat)
inductive Item where
  | t (slot : Nat) (s : LS)
  | agg (slot : Nat) (ls : List LS)
  | box (name : Nat) (e : TypeId) (ls : List LS)
  | row (name : Nat) (e : TypeId) (t : Ty)
@[reducible] def LS.add (s : LS) (X : Type) : Type :=
  match s with
  | .int _ => Int × X
  | .bool => Bool × X
  | .str => ByteArray × X
  | .ro t => List t.den × X
  | .own _ t => List t.den × X
  | _ => X
@[reducible] def addL : List LS → Type → Type
  | [], X => X
  | s :: r, X => s.add (addL r X)
@[reducible] def Den : List Item → Type
  | [] => Unit
  | .t _ s :: r => s.add (Den r)
  | .agg _ ls :: r => addL ls (Den r)
  | .box _ _ ls :: r => addL ls (Den r)
  | .row _ _ t :: r => List t.den × Den r
/-- the name of a row that hangs at leaf j of slot or box n -/
def sub2 (n j : Nat) : Nat := 1000 * (n + 1) + j

abbrev Objs := List (Nat × Option Obj)
def encL (ren : Nat → Nat) (name : Nat) : (s : LS) → {X : Type} → s.add X → L × Objs × X
  | .int k, _, x => (.p (.int k x.1), [], x.2)
  | .bool, _, x => (.p (.bool x.1), [], x.2)
  | .str, _, x => (.p (.string x.1), [], x.2)
  | .ro t, _, x => (.ro t x.1 false, [], x.2)
  | .own e t, _, x => (.rw (ren name) none, [(ren name, some (.row e t x.1))], x.2)
  | .al n, _, x => (.rw (ren n) none, [], x)
  | .ptr n, _, x => (.ptr (ren n) 0 0, [], x)
  | .cn v, _, x => (ofLeaf v, [], x)
  | .fn f caps, _, x => (.fn f (caps.map ren), [], x)
  | .un, _, x => (.un, [], x)
def encLs (ren : Nat → Nat) (n : Nat) : (j : Nat) → (ls : List LS) → {X : Type} → addL ls X → List L × Objs × X
  | _, [], _, x => ([], [], x)
  | j, s :: r, _, x =>
    ((encL ren (sub2 n j) s x).1 :: (encLs ren n (j + 1) r (encL ren (sub2 n j) s x).2.2).1,
     (encL ren (sub2 n j) s x).2.1 ++ (encLs ren n (j + 1) r (encL ren (sub2 n j) s x).2.2).2.1,
     (encLs ren n (j + 1) r (encL ren (sub2 n j) s x).2.2).2.2)
def enc (ren : Nat → Nat) : (is : List Item) → Den is → St
  | [], _ => ⟨[], []⟩
  | .t slot s :: r, x =>
    ⟨(slot, .l (encL ren slot s x).1) :: (enc ren r (encL ren slot s x).2.2).t, (encL ren slot s x).2.1 ++ (enc ren r (encL ren slot s x).2.2).o⟩
  | .agg slot ls :: r, x =>
    ⟨(slot, .agg (encLs ren slot 0 ls x).1) :: (enc ren r (encLs ren slot 0 ls x).2.2).t, (encLs ren slot 0 ls x).2.1 ++ (enc ren r (encLs ren slot 0 ls x).2.2).o⟩
  | .box n e ls :: r, x =>
    ⟨(enc ren r (encLs ren n 0 ls x).2.2).t, (ren n, some (.box e (encLs ren n 0 ls x).1)) :: ((encLs ren n 0 ls x).2.1 ++ (enc ren r (encLs ren n 0 ls x).2.2).o)⟩
  | .row n e t :: r, x => ⟨(enc ren r x.2).t, (ren n, some (.row e t x.1)) :: (enc ren r x.2).o⟩

abbrev Nm := List (Nat × Nat)
def nmGet : Nm → Nat → Option Nat
  | [], _ => none
  | (k, v) :: r, n => cond (Nat.beq k n) (some v) (nmGet r n)
/-- a new entry: what it stands for is nobody else's -/
def addN (m : Nm) (k v : Nat) : Option Nm := cond ((m.map (·.2)).contains v) none (some ((k, v) :: m))
/-- the mark of a row that is cut short -/
def mkN (id : Nat) : Nat := 10000000000000 + id
/-- what the name of a nil slice stands for -/
def nlN (name : Nat) : Nat := 1000000000000 + name
def isAct (a : Nat) : Bool := !Nat.ble 1000000000000 a
/-- a name and what it stands for -/
def bindN (mn : List Nat) (m : Nm) (name act : Nat) : Option Nm :=
  match nmGet m name with
  | some a => cond (Nat.beq a act && isAct act) (some m) none
  | none => cond (isAct act && isAct name && !(mn.contains name && !Nat.beq name act)) (addN m name act) none
/-- a name for something that is not cut short -/
def bindW (mn : List Nat) (m : Nm) (name act : Nat) : Option Nm :=
  match nmGet m (mkN act) with
  | some _ => none
  | none => bindN mn m name act
def bindAll (mn : List Nat) : Nm → List Nat → List Nat → Option Nm
  | m, [], [] => some m
  | m, n :: ns, a :: as => (bindW mn m n a).bind fun m' => bindAll mn m' ns as
  | _, _, _ => none
/-- one leaf: the names that it binds -/
def decN (mn : List Nat) (name : Nat) (s : LS) (x : L) (m : Nm) : Option Nm :=
  match s, x with
  | .own _ _, .rw id none => bindN mn m name id
  | .own _ _, .rw id (some _) => match nmGet m name, nmGet m (mkN id) with
    | none, none => cond (mn.contains name) none ((bindN mn m name id).bind fun m' => addN m' (mkN id) (mkN id))
    | _, _ => none
  | .own _ _, .nil => match nmGet m name with
    | some _ => none
    | none => cond (mn.contains name || !isAct name) none (addN m name (nlN name))
  | .own _ _, _ => none
  | .al n, .rw id none => bindW mn m n id
  | .al _, _ => none
  | .ptr n, .ptr id i f => cond (decide (i = 0) && Nat.beq f 0) (bindW mn m n id) none
  | .ptr _, _ => none
  | .fn f ns, .fn g as => cond (Nat.beq f g) (bindAll mn m ns as) none
  | .fn _ _, _ => none
  | _, _ => some m
/-- one leaf: what it carries -/
def decL (o : Look) (acts : List Nat) (s : LS) (x : L) {X : Type} (k : Option X) : Option (s.add X) :=
  match s with
  | .int k' => match x with
    | .p (.int k'' n) => cond (decide (k' = k'')) (match k with | some r => some (n, r) | none => none) none
    | _ => none
  | .bool => match x with
    | .p (.bool n) => match k with | some r => some (n, r) | none => none
    | _ => none
  | .str => match x with
    | .p (.string n) => match k with | some r => some (n, r) | none => none
    | _ => none
  | .ro t => cond ((rwIdsL x).any fun id => acts.contains id) none (match contentOf o t x with
    | some xs => match k with | some r => some (xs, r) | none => none
    | none => none)
  | .own e t => match x with
    | .nil => match k with | some r => some ([], r) | none => none
    | .rw id w => match o id with
      | some (some (.row e' _ _)) => match w with
        | none => cond (Nat.beq e e') (match contentOf o t x with
            | some xs => match k with | some r => some (xs, r) | none => none
            | none => none) none
        | some (a, n) => cond (Nat.beq e e' && decide (a = 0)) (match contentOf o t x with
            | some xs => match k with | some r => some (xs, r) | none => none
            | none => none) none
      | _ => none
    | _ => none
  | .cn v => match x, v with
    | .p (.bool a), .bool b => cond (a == b) k none
    | .p (.int j a), .int j' b => cond (decide (j = j') && decide (a = b)) k none
    | .nil, .slice none 0 0 => k
    | .p .nilFunc, .nilFunc => k
    | _, _ => none
  | .al _ => k
  | .ptr _ => k
  | .fn _ _ => k
  | .un => k
def decNs (mn : List Nat) (n : Nat) : (j : Nat) → List LS → List L → Nm → Option Nm
  | _, [], [], m => some m
  | j, s :: ss, x :: xs, m => (decN mn (sub2 n j) s x m).bind fun m' => decNs mn n (j + 1) ss xs m'
  | _, _, _, _ => none
def decLs (o : Look) (acts : List Nat) : (ls : List LS) → List L → {X : Type} → Option X → Option (addL ls X)
  | [], _, _, k => k
  | s :: ss, x :: xs, _, k => decL o acts s x (decLs o acts ss xs k)
  | _ :: _, [], _, _ => none
def leafV : V → L
  | .l x => x
  | _ => .un
def leavesVs : V → List L
  | .agg xs => xs
  | _ => []
def isL : V → Bool
  | .l _ => true
  | _ => false
def isA : V → Bool
  | .agg _ => true
  | _ => false
def declL (name : Nat) : LS → List Nat
  | .own _ _ => [name]
  | _ => []
def declLs (n : Nat) : (j : Nat) → List LS → List Nat
  | _, [] => []
  | j, s :: r => declL (sub2 n j) s ++ declLs n (j + 1) r
def decl : List Item → List Nat
  | [] => []
  | .t slot s :: r => declL slot s ++ decl r
  | .agg slot ls :: r => declLs slot 0 ls ++ decl r
  | .box n _ ls :: r => n :: (declLs n 0 ls ++ decl r)
  | .row n _ _ :: r => n :: decl r
/-- every name that is bound is declared, each once -/
def declOk (is : List Item) (m : Nm) : Bool :=
  (m.all fun p => Nat.ble 10000000000000 p.1 || (decl is).contains p.1) && decide ((decl is).Nodup) && (decl is).all isAct
/-- all names of a shape, and what they stand for -/
def names (mn : List Nat) (tv : Nat → V) (o : Look) : List Item → Nm → Option Nm
  | [], m => some m
  | .t slot ls :: r, m => cond (isL (tv slot)) ((decN mn slot ls (leafV (tv slot)) m).bind (names mn tv o r)) none
  | .agg slot ls :: r, m => cond (isA (tv slot)) ((decNs mn slot 0 ls (leavesVs (tv slot)) m).bind (names mn tv o r)) none
  | .box n e ls :: r, m => match nmGet m n with
    | some id => match o id with
      | some (some (.box e' xs)) => cond (Nat.beq e e' && isAct id) ((decNs mn n 0 ls xs m).bind (names mn tv o r)) none
      | _ => none
    | none => none
  | .row n e t :: r, m => match nmGet m n with
    | some id => cond (isAct id) (names mn tv o r m) none
    | none => none
def vals (tv : Nat → V) (o : Look) (m : Nm) : (is : List Item) → Option (Den is)
  | [] => some ()
  | .t slot ls :: r => decL o (m.map (·.2)) ls (leafV (tv slot)) (vals tv o m r)
  | .agg slot ls :: r => decLs o (m.map (·.2)) ls (leavesVs (tv slot)) (vals tv o m r)
  | .box n e ls :: r => match nmGet m n with
    | some id => match o id with
      | some (some (.box _ xs)) => decLs o (m.map (·.2)) ls xs (vals tv o m r)
      | _ => none
    | none => none
  | .row n e t :: r => match nmGet m n with
    | some id => match o id with
      | some (some (.row e' u xs)) => cond (Nat.beq e e') (match (castL xs : Option (List t.den)) with
        | some xs => match vals tv o m r with | some x => some (xs, x) | none => none
        | none => none) none
      | _ => none
    | none => none
end Go.Pm

set_option linter.unusedVariables false
namespace Go.Pm

/-- a function as it is called: what goes in, which of its objects it may change, what comes out -/
structure Fun where
  ins : List Item
  mn : List Nat
  outs : List Item
  run : Den ins → Option (Den outs)
abbrev Orc := FuncId → Option Fun

def zipT : Nat → List V → List (Nat × V)
  | _, [] => []
  | n, v :: vs => (n, v) :: zipT (n + 1) vs
def rslot : Nat := 500
/-- the result's value out of the results' slots -/
def resV (n : Nat) (s : St) : V :=
  match n with
  | 1 => getT s.t rslot
  | n => .tup ((List.range n).map fun k => match getT s.t (rslot + k) with
    | .l x => (false, [x])
    | .agg xs => (true, xs)
    | .tup _ => (false, []))
def Ty.flat : Ty → Bool
  | .sl _ => false
  | _ => true
def LS.hasRo : LS → Bool
  | .ro _ => true
  | .own _ t => !t.flat
  | _ => false
/-- may what comes out hold slices that are read? -/
def hasRo : List Item → Bool
  | [] => false
  | .t _ s :: r => s.hasRo || hasRo r
  | .agg _ ls :: r => ls.any LS.hasRo || hasRo r
  | .box _ _ ls :: r => ls.any LS.hasRo || hasRo r
  | .row _ _ t :: r => !t.flat || hasRo r
def isRes : Item → Bool
  | .t _ _ => true
  | .agg _ _ => true
  | _ => false
def resN (outs : List Item) : Nat := (outs.filter isRes).length
def restrict (fp : List Nat) (o : Look) : Look := fun id => cond (fp.contains id) (o id) none

section
variable {R : Type}
/-- the rows and boxes that a call gets hold of -/
def reach (args : List V) (o : Look) : List Nat := (args.flatMap idsV) ++ (args.flatMap idsV).flatMap fun id => idsO (o id)
def rwIdsO : Option (Option Obj) → List Nat
  | some (some (.box _ ls)) => ls.flatMap rwIdsL
  | _ => []
/-- the objects that are handed over -/
def handed (m : Nm) : List Nat := (m.map (·.2)).filter isAct
/-- the rows that a call may read -/
def reachRw (args : List V) (o : Look) (m : Nm) : List Nat := (args.flatMap rwIds) ++ (handed m).flatMap fun id => rwIdsO (o id)
/-- the names in the caller of what comes out -/
def renOf (F : Fun) (m : Nm) (d : Nat) (n : Nat) : Nat :=
  cond (F.mn.contains n) ((nmGet m n).getD n) (10000000 * (d + 1) + n)
/-- a call -/
def pmCallR (F : Fun) (mn : List Nat) (or o : Look) (d : Nat) (args : List V) (K : Eff → Option R) : Option R :=
  match names [] (getT (zipT 0 args)) or F.ins [] with
  | none => none
  | some m => cond (declOk F.ins m && F.mn.all (fun n => match nmGet m n with | some a => isAct a && (nmGet m (mkN a)).isNone | none => false) && F.mn.all (fun n => (decl F.outs).contains n) && decide ((decl F.outs).Nodup) && (decl F.outs).all (fun n => Nat.ble n 9999999))
    (match vals (getT (zipT 0 args)) or m F.ins with
    | none => none
    | some x => (F.run x).bind fun y =>
      let s1 := enc (renOf F m d) F.outs y
      cond ((decl F.outs).all fun n => F.mn.contains n || !((o (10000000 * (d + 1) + n)).isSome || mn.contains (10000000 * (d + 1) + n)))
        (K ⟨resV (resN F.outs) s1, s1.o ++ ((handed m).filter fun a => !(F.mn.filterMap (nmGet m)).contains a).map fun a => (a, none),
          cond (hasRo F.outs) ((reachRw args or m).filter fun id => !(handed m).contains id).eraseDups []⟩) none) none

def pmCall (F : Fun) (mn : List Nat) (o : Look) (d : Nat) (args : List V) (K : Eff → Option R) : Option R := pmCallR F mn (restrict (reach args o) o) o d args K

def zeroLeaves (z : List Value) : List L := z.map ofLeaf
def partsVals (ev : Operand → V) (t : Ty) (o : Look) : (i : Nat) → List (Nat × Operand) → Option (List t.den)
  | _, [] => some []
  | i, (j, x) :: r => cond (Nat.beq i j) (match toDen o t (ev x), partsVals ev t o (i + 1) r with
    | some a, some as => some (a :: as)
    | _, _ => none) none
def fillLeaves (ev : Operand → V) (offs : List (Nat × Nat)) : List L → List (Nat × Operand) → Option (List L)
  | ls, [] => some ls
  | ls, (j, x) :: r => match offs[j]?, leavesV (ev x) with
    | some (f, n), some new => cond (Nat.beq new.length n && Nat.ble (f + new.length) ls.length && !new.any L.isUn) (fillLeaves ev offs (setAt ls f new) r) none
    | _, _ => none
def capIds : List V → Option (List Nat)
  | [] => some []
  | .l (.ptr id i f) :: r => cond (decide (i = 0) && Nat.beq f 0) (match capIds r with | some as => some (id :: as) | none => none) none
  | _ => none
def elemDflt (t : Ty) (n : Int) : List t.den := List.replicate n.toNat t.dflt

variable (td : TypeId → TD) (C : Orc) (mn : List Nat)
/-- one operation -/
def opEff (oper : Oper) (ev : Operand → V) (o : Look) (K : Eff → Option R) : Option R :=
  match oper.op with
  | .move x => K ⟨ev x, [], []⟩
  | .assign x => K ⟨ev x, [], []⟩
  | .pick c a b => match ev c with
    | .l (.p (.bool t)) => cond t (K ⟨ev a, [], []⟩) (K ⟨ev b, [], []⟩)
    | _ => none
  | .alloc e => cond (Nat.ble 1 (td e).cells.length) (pmNew mn o oper.dst (.box e (zeroLeaves (td e).cells)) (fun d => .l (.ptr d 0 0)) [] [] K) none
  | .box e x => match leavesV (ev x) with
    | some ls => cond (Nat.beq ls.length (td e).cells.length && Nat.ble 1 ls.length && !ls.any L.isUn) (pmNew mn o oper.dst (.box e ls) (fun d => .l (.ptr d 0 0)) [] [] K) none
    | none => none
  | .build t ps => match (td t).isAgg with
    | true => match fillLeaves ev (td t).offs (zeroLeaves (td t).cells) ps.toList with
      | some ls => K ⟨.agg ls, [], []⟩
      | none => none
    | false => none
  | .buildSlice t n ps => match td t with
    | .slice e τ => cond (Nat.beq n ps.size && Nat.ble n 64) (match partsVals ev τ o 0 ps.toList with
      | some xs => pmNew mn o oper.dst (.row e τ xs) (fun d => .l (.rw d none)) (ps.toList.flatMap fun p => rwIds (ev p.2)).eraseDups [] K
      | none => none) none
    | _ => none
  | .load t a => pmLoad (td t) o (ev a) K
  | .store t a x => pmStore (td t) o (ev a) (ev x) K
  | .nilCheck x => match ev x with
    | .l (.ptr id i f) => match o id with
      | some (some _) => K ⟨.l (.ptr id i f), [], []⟩
      | _ => none
    | .l (.fn f caps) => K ⟨.l (.fn f caps), [], []⟩
    | _ => none
  | .binOp op t x y _ => pmBin (td t) op (ev x) (ev y) K
  | .unOp op _ x => pmUn op (ev x) K
  | .convert s t x => pmConvert (td s) (td t) o (ev x) K
  | .makeFunc fn first caps => match fn with
    | .func f => cond first.isEmpty (match capIds (caps.toList.map ev) with
      | some ids => K ⟨.l (.fn f ids), [], []⟩
      | none => none) none
    | _ => none
  | .makeSlice t l c => match td t with
    | .slice e τ => asInt (ev l) fun n => asInt (ev c) fun m => chk (n = m ∧ 0 ≤ n ∧ n ≤ (τ.lim : Int))
        (pmNew mn o oper.dst (.row e τ (elemDflt τ n)) (fun d => .l (.rw d none)) [] [] K)
    | _ => none
  | .slice t x lo hi mx => pmSlice (td t) o (ev x) (lo.map ev) (hi.map ev) (mx.map ev) K
  | .fieldAddr s x k => match (td s).offs[k]? with
    | some (f, _) => match ev x with
      | .l (.ptr id i g) => match o id with
        | some (some _) => K ⟨.l (.ptr id i (g + f)), [], []⟩
        | _ => none
      | .l (.rp t y g) => K ⟨.l (.rp t y (g + f)), [], []⟩
      | _ => none
    | none => none
  | .indexAddr t x ix => match td t with
    | .slice _ τ => pmIndexAddr τ o (ev x) (ev ix) K
    | _ => none
  | .index t x ix => pmIndex (td t) (ev x) (ev ix) K
  | .extract x k => match ev x with
    | .tup vs => match vs[k]? with
      | some (true, ls) => K ⟨.agg ls, [], []⟩
      | some (false, [y]) => K ⟨.l y, [], []⟩
      | _ => none
    | _ => none
  | .call c => match c.callee with
    | .builtin .len => match c.args.toList, c.argTypes.toList with
      | [x], [t] => pmLen (td t) o (ev x) K
      | _, _ => none
    | .builtin .append => match c.args.toList, c.argTypes.toList with
      | [x, y], [t, t'] => cond (Nat.beq t t') (match td t with
        | .slice e τ => pmAppend mn e τ o oper.dst (ev x) (ev y) K
        | _ => none) none
      | _, _ => none
    | .builtin .max => pmMinMax max2 (c.args.toList.map ev) K
    | .builtin .min => pmMinMax min2 (c.args.toList.map ev) K
    | .value f => match ev f with
      | .l (.fn g caps) => match C g with
        | some F => pmCall F mn o (oper.dst.getD 999) (c.args.toList.map ev ++ caps.map fun id => .l (.ptr id 0 0)) K
        | none => none
      | _ => none
    | _ => none
  | _ => none

structure Log where
  i : Nat
  rt : List Nat
  wt : List Nat
  ro : List Nat
  wo : List Nat
  all : Bool
  mv : Option (List Nat) := none   -- a plain copy, and what it mentions
  fz : List Nat := []
def tmpsOf (xs : List Operand) : List Nat := xs.filterMap fun | .tmp t => some t | _ => none
def disj (a b : List Nat) : Bool := a.all fun x => !b.contains x
def apart (a b : Log) : Bool :=
  (!a.all && !b.all && disj a.wt (b.rt ++ b.wt) && disj a.rt b.wt && disj a.wo (b.ro ++ b.wo) && disj a.ro b.wo) ||
  (match a.mv with
  | some ids => disj a.wt (b.rt ++ b.wt) && disj a.rt b.wt && disj b.fz ids
  | none => false)
def mvOf (op : Op) (ev : Operand → V) : Option (List Nat) :=
  match op with
  | .move x => some (idsV (ev x))
  | _ => none
/-- does every earlier operation that is not bound to come before this one keep apart from it? -/
def apartAll (anc : Nat) (l : Log) : List Log → Bool
  | [] => true
  | a :: r => (anc.testBit a.i || apart a l) && apartAll anc l r
/-- does it look at objects? -/
def looksAt : Op → Bool
  | .move _ | .assign _ | .pick .. | .alloc _ | .box .. | .build .. | .binOp .. | .unOp .. | .makeFunc .. | .makeSlice .. | .index .. | .extract .. => false
  | _ => true
def logOf (i : Nat) (oper : Oper) (g : List Nat) (ev : Operand → V) (o : Look) (e : Eff) : Log :=
  let ids := cond (looksAt oper.op) (oper.op.operands.toList.flatMap fun x => idsV (ev x)) []
  { i, rt := tmpsOf oper.op.operands.toList ++ g, wt := oper.dst.toList, ro := oper.dst.toList ++ ids ++ ids.flatMap fun id => idsO (o id), wo := e.o.map (·.1), all := !e.frz.isEmpty, mv := mvOf oper.op ev, fz := e.frz }
/-- every edge that binds goes back -/
def edgesOk : Nat → List Oper → Bool
  | _, [] => true
  | i, o :: r => (o.after.toList.all fun e => !Region.binds .any e || Nat.blt e.on i) && edgesOk (i + 1) r

variable (ops : Array Oper) (anc : Array Nat) (draw : Bool)
def pmStep (i : Nat) (oper : Oper) (g : List Nat) (s : St) (lg : List Log) (K : St → List Log → Option R) : Option R :=
  opEff td C mn oper s.ev (getO s.o) fun e =>
    match draw with
    | false => K (s.app oper.dst e) lg
    | true => let l := logOf i oper g s.ev (getO s.o) e
      cond (apartAll (anc.getD i 0) l lg) (K (s.app oper.dst e) (l :: lg)) none
def pmSkip (i : Nat) (oper : Oper) (g : List Nat) (s : St) (lg : List Log) (K : St → List Log → Option R) : Option R :=
  match draw with
  | false => K (s.put oper.dst (.tup [])) lg
  | true => let l : Log := { i, rt := g, wt := oper.dst.toList, ro := [], wo := [], all := false }
    cond (apartAll (anc.getD i 0) l lg) (K (s.put oper.dst (.tup [])) (l :: lg)) none
def pmOps : (i : Nat) → List Oper → St → List Log → (St → List Log → Option R) → Option R
  | _, [], s, lg, K => K s lg
  | i, oper :: r, s, lg, K =>
    match oper.guard with
    | none => pmStep td C mn anc draw i oper [] s lg fun s' lg' => pmOps (i + 1) r s' lg' K
    | some (j, want) => match (ops[j]?).bind (·.dst) with
     | none => none
     | some dg => match getT s.t dg with
      | .l (.p (.bool b)) =>
        cond b
          (cond want (pmStep td C mn anc draw i oper [dg] { s with t := (dg, .l (.p (.bool true))) :: s.t } lg fun s' lg' => pmOps (i + 1) r s' lg' K)
            (pmSkip anc draw i oper [dg] { s with t := (dg, .l (.p (.bool true))) :: s.t } lg fun s' lg' => pmOps (i + 1) r s' lg' K))
          (cond want (pmSkip anc draw i oper [dg] { s with t := (dg, .l (.p (.bool false))) :: s.t } lg fun s' lg' => pmOps (i + 1) r s' lg' K)
            (pmStep td C mn anc draw i oper [dg] { s with t := (dg, .l (.p (.bool false))) :: s.t } lg fun s' lg' => pmOps (i + 1) r s' lg' K))
      | .tup [] => pmSkip anc draw i oper [dg] s lg fun s' lg' => pmOps (i + 1) r s' lg' K
      | _ => none
end

section
variable {S R : Type}
def iterM (f : S → Option (S ⊕ R)) : Nat → S → Option R
  | 0, _ => none
  | n + 1, s => (f s).bind fun
    | .inl s' => iterM f n s'
    | .inr r => some r
open Classical in
noncomputable def loopM (f : S → Option (S ⊕ R)) (s : S) : Option R :=
  if h : ∃ r n, iterM f n s = some r then some h.choose else none
theorem iterM_mono (f : S → Option (S ⊕ R)) : ∀ (n : Nat) (s : S) (r : R), iterM f n s = some r → iterM f (n + 1) s = some r := by
  intro n
  induction n with
  | zero => intro s r h; simp [iterM] at h
  | succ n ih =>
    intro s r h
    rw [iterM] at h ⊢
    cases hf : f s with
    | none => rw [hf] at h; simp at h
    | some x =>
      rw [hf] at h
      cases x with
      | inl s' => simp only [Option.bind_some] at h ⊢; exact ih s' r h
      | inr r' => simpa using h
theorem iterM_le (f : S → Option (S ⊕ R)) (n m : Nat) (h : n ≤ m) (s : S) (r : R) (hs : iterM f n s = some r) : iterM f m s = some r := by
  induction h with
  | refl => exact hs
  | step _ ih => exact iterM_mono f _ s r ih
theorem loopM_of_iter (f : S → Option (S ⊕ R)) (s : S) (r : R) (n : Nat) (h : iterM f n s = some r) : loopM f s = some r := by
  have hex : ∃ r n, iterM f n s = some r := ⟨r, n, h⟩
  rw [loopM, dif_pos hex]
  obtain ⟨m, hm⟩ := hex.choose_spec
  have h1 := iterM_le f n (max n m) (Nat.le_max_left ..) s r h
  have h2 := iterM_le f m (max n m) (Nat.le_max_right ..) s _ hm
  rw [h1] at h2
  exact h2.symm
theorem iter_of_loopM (f : S → Option (S ⊕ R)) (s : S) (r : R) (h : loopM f s = some r) : ∃ n, iterM f n s = some r := by
  rw [loopM] at h
  split at h
  · rename_i hex
    cases h
    exact hex.choose_spec
  · cases h
theorem loopM_eq (f : S → Option (S ⊕ R)) (s : S) : loopM f s = (f s).bind fun | .inl s' => loopM f s' | .inr r => some r := by
  apply Option.ext
  intro r
  constructor
  · intro h
    obtain ⟨n, hn⟩ := iter_of_loopM f s r h
    cases n with
    | zero => simp [iterM] at hn
    | succ n =>
      rw [iterM] at hn
      cases hf : f s with
      | none => rw [hf] at hn; simp at hn
      | some x =>
        rw [hf] at hn
        cases x with
        | inl s' => simp only [Option.bind_some] at hn ⊢; exact loopM_of_iter f s' r n hn
        | inr r' => simpa using hn
  · intro h
    cases hf : f s with
    | none => rw [hf] at h; simp at h
    | some x =>
      rw [hf] at h
      cases x with
      | inl s' =>
        simp only [Option.bind_some] at h
        obtain ⟨n, hn⟩ := iter_of_loopM f s' r h
        exact loopM_of_iter f s r (n + 1) (by rw [iterM, hf]; simpa using hn)
      | inr r' =>
        simp only [Option.bind_some] at h
        exact loopM_of_iter f s r 1 (by rw [iterM, hf]; simpa using h)
end

inductive PE where
  | normal | exit (id : Nat) | ret
def annGet : List (Nat × List Item) → Nat → Option (List Item)
  | [], _ => none
  | (k, v) :: r, n => cond (Nat.beq k n) (some v) (annGet r n)
/-- from here on only what the shape names is known -/
def cut {R : Type} (mn : List Nat) (is : List Item) (s : St) (K : Den is → Option R) : Option R :=
  match names mn (getT s.t) (getO s.o) is (mn.map fun n => (n, n)) with
  | some m => cond (declOk is m) (match vals (getT s.t) (getO s.o) m is with
    | some x => K x
    | none => none) none
  | none => none
section
variable (td : TypeId → TD) (C : Orc) (mn : List Nat) (ann : List (Nat × List Item))
def joinK {R : Type} (j : Option (List Item)) (K : PE → St → Option R)
    (run : {R : Type} → (PE → St → Option R) → Option R) : Option R :=
  match j with
  | none => run K
  | some is => (run (R := Den is ⊕ R) fun e s => match e with
      | .normal => cut mn is s fun x => some (.inl x)
      | e => (K e s).map .inr).bind fun
    | .inl x => K .normal (enc id is x)
    | .inr r => some r
noncomputable def pm : (c : Code) → (p : Nat) → {R : Type} → St → (PE → St → Option R) → Option R
  | .skip, _, _, s, K => K .normal s
  | .region _ ops draw, p, _, s, K =>
    cond (!draw || edgesOk 0 ops.toList) (joinK mn (annGet ann p) K fun K => pmOps td C mn ops (cond draw (Region.before ops) #[]) draw 0 ops.toList s [] fun s' _ => K .normal s') none
  | .seq a b, p, _, s, K =>
    joinK mn (annGet ann p) K fun K => pm a (2 * p) s fun e s' => match e with
      | .normal => pm b (2 * p + 1) s' K
      | e => K e s'
  | .cond c a b, p, _, s, K =>
    joinK mn (annGet ann p) K fun K => match s.ev c with
      | .l (.p (.bool t)) => _root_.cond t (pm a (2 * p) s K) (pm b (2 * p + 1) s K)
      | _ => none
  | .block id c, p, _, s, K =>
    joinK mn (annGet ann p) K fun K => pm c (2 * p) s fun e s' => match e with
      | .exit i => _root_.cond (Nat.beq i id) (K .normal s') (K (.exit i) s')
      | e => K e s'
  | .loop c, p, _, s, K => match annGet ann p with
    | none => none
    | some is => cut mn is s fun x0 =>
        loopM (fun x => pm c (2 * p) (enc id is x) fun e s' => match e with
          | .normal => cut mn is s' fun x => some (.inl x)
          | e => (K e s').map .inr) x0
  | .exit id, _, _, s, K => K (.exit id) s
  | .ret, _, _, s, K => K .ret s
  | _, _, _, _, _ => none

def resVals (s : St) : (k : Nat) → List ResultVar → Option (List (Nat × V))
  | _, [] => some []
  | k, .tmp t :: r => match resVals s (k + 1) r with | some l => some ((rslot + k, getT s.t t) :: l) | none => none
  | k, .cell a t :: r => match pmLoad (td t) (getO s.o) (getT s.t a) some, resVals s (k + 1) r with
    | some e, some l => some ((rslot + k, e.v) :: l)
    | _, _ => none
/-- a function's run -/
noncomputable def pmFn (fn : Func) (ins outs : List Item) (x : Den ins) : Option (Den outs) :=
  match fn.body with
  | none => none
  | some c => pm td C mn ann c 1 (enc id ins x) fun e s => match e with
    | .exit _ => none
    | _ => match resVals td s 0 fn.results.toList with
      | none => none
      | some l => match names mn (getT l) (getO s.o) outs (mn.map fun n => (n, n)) with
        | some m => cond (declOk outs m) (vals (getT l) (getO s.o) m outs) none
        | none => none
end
end Go.Pm

set_option linter.unusedVariables false
set_option linter.unusedSimpArgs false
namespace Go.Pm
open Go.RowKit

def SlR {α : Type} (E : α → (Nat → Option Value) → Prop) (sz : Nat) (w : World) (B : Nat → Prop) (xs : List α) (cl : Bool) (v : Value) : Prop :=
  ∃ A n c, v = .slice A n c ∧ xs.length = n ∧ (cl = true → c = n) ∧ n ≤ c ∧
    (0 < n → ∃ b o, A = some ⟨b, o, none⟩ ∧ b < w.heap.size ∧ ¬ B b ∧ ∀ i (h : i < xs.length), E xs[i] (fun j => w.cell? ⟨b, o + i * sz + j, none⟩))
def ElR (w : World) (B : Nat → Prop) : (t : Ty) → t.den → (Nat → Option Value) → Prop
  | .int k, x, c => c 0 = some (.int k x)
  | .bool, x, c => c 0 = some (.bool x)
  | .str, x, c => c 0 = some (.string x)
  | .ii, x, c => c 0 = some (.int .i64 x.1) ∧ c 1 = some (.int .i64 x.2)
  | .sl t, xs, c => ∃ v, c 0 = some v ∧ SlR (ElR w B t) t.sz w B xs false v
abbrev Pl := Nat → Option (Nat × Nat)
def RwR (pl : Option (Nat × Nat)) (sz n : Nat) (win : Option (Int × Int)) (u : Value) : Prop :=
  match win with
  | none => match pl with
    | none => u = .slice none 0 0 ∧ n = 0
    | some (g, c) => u = .slice (some ⟨g, 0, none⟩) n c ∧ n ≤ c
  | some (a, m) => 0 ≤ a ∧ 0 ≤ m ∧ a + m ≤ n ∧ ∃ A c, u = .slice A m.toNat c ∧ m.toNat ≤ c ∧
      (0 < m → ∃ g c', pl = some (g, c') ∧ A = some ⟨g, a.toNat * sz, none⟩) ∧
      (a = 0 → match pl with
        | none => A = none ∧ c = 0
        | some (g, c') => A = some ⟨g, 0, none⟩ ∧ c = c')
def PtR (pl : Option (Nat × Nat)) (x : Obj) (i : Int) (f : Nat) (u : Value) : Prop :=
  match x with
  | .row _ t xs => 0 ≤ i ∧ i < xs.length ∧ ∃ g c, pl = some (g, c) ∧ u = .pointer (some ⟨g, i.toNat * t.sz + f, none⟩)
  | .box _ _ => i = 0 ∧ ∃ g c, pl = some (g, c) ∧ u = .pointer (some ⟨g, f, none⟩)
def LR (o : Look) (ρ : Pl) (w : World) (B : Nat → Prop) : L → Value → Prop
  | .un, _ => True
  | .p v, u => u = v ∧ v.oneCell' = true
  | .nil, u => u = .slice none 0 0
  | .ro t xs cl, u => SlR (ElR w B t) t.sz w B xs cl u
  | .rw id win, u => match o id with
    | some (some (.row _ t xs)) => RwR (ρ id) t.sz xs.length win u
    | some none => u.oneCell' = true
    | _ => False
  | .ptr id i f, u => match o id with
    | some (some x) => PtR (ρ id) x i f u
    | some none => u.oneCell' = true
    | none => False
  | .rp t x f, u => ∃ b k, u = .pointer (some ⟨b, k + f, none⟩) ∧ b < w.heap.size ∧ ¬ B b ∧ ElR w B t x (fun j => w.cell? ⟨b, k + j, none⟩)
  | .fn f caps, u => ∃ us : List Value, u = .func (.func f) #[] us.toArray ∧ us.length = caps.length ∧
      ∀ (j : Nat) (id : Nat) (c : Value), caps[j]? = some id → us[j]? = some c → match o id with
        | some (some x) => PtR (ρ id) x 0 0 c
        | some none => c.oneCell' = true
        | none => False
def LR1 (o : Look) (ρ : Pl) (w : World) (B : Nat → Prop) (x : L) (u : Value) : Prop := LR o ρ w B x u ∧ u.oneCell' = true
def AgR (o : Look) (ρ : Pl) (w : World) (B : Nat → Prop) (xs : List L) (cs : List Value) : Prop :=
  cs.length = xs.length ∧ ∀ (j : Nat) (x : L) (c : Value), xs[j]? = some x → cs[j]? = some c → LR1 o ρ w B x c
def TuR (o : Look) (ρ : Pl) (w : World) (B : Nat → Prop) : Bool × List L → Value → Prop
  | (false, [x]), u => LR o ρ w B x u
  | (false, _), _ => True
  | (true, ls), u => ∃ cs, u = .agg cs ∧ AgR o ρ w B ls cs.toList
def VR (o : Look) (ρ : Pl) (w : World) (B : Nat → Prop) : V → Value → Prop
  | .l x, u => LR o ρ w B x u
  | .agg xs, u => ∃ cs, u = .agg cs ∧ AgR o ρ w B xs cs.toList
  | .tup vs, u => ∃ us, u = .tuple us ∧ us.size = vs.length ∧ ∀ (j : Nat) (x : Bool × List L) (c : Value), vs[j]? = some x → us[j]? = some c → TuR o ρ w B x c
def OR (o : Look) (ρ : Pl) (w : World) (B : Nat → Prop) (id : Nat) : Obj → Prop
  | .row e t xs => match ρ id with
    | none => xs = []
    | some (g, c) => ∃ cur, w.heap[g]? = some (.cells cur e (0, 0)) ∧ xs.length ≤ c ∧ c ≤ maxLen ∧ cur.size = c * t.sz ∧
        ∀ i (h : i < xs.length), ElR w B t xs[i] (fun j => w.cell? ⟨g, i * t.sz + j, none⟩)
  | .box e ls => ∃ g c cur, ρ id = some (g, c) ∧ w.heap[g]? = some (.cells cur e (0, 0)) ∧ AgR o ρ w B ls cur.toList
/-- the blocks that may be written -/
def BO (X : Nat → Prop) (o : Look) (ρ : Pl) (g : Nat) : Prop := X g ∨ ∃ id x c, o id = some (some x) ∧ ρ id = some (g, c)
structure RelT (X : Nat → Prop) (nt : Nat) (ev : Nat → V) (o : Look) (ρ : Pl) (a : Act) (w : World) : Prop where
  sz : a.tmps.size = nt
  dn : a.defers = []
  tm : ∀ k, VR o ρ w (BO X o ρ) (ev k) (a.tmps.getD k undef)
  ob : ∀ id x, o id = some (some x) → OR o ρ w (BO X o ρ) id x
  inj : ∀ id id' x x' g c c', o id = some (some x) → o id' = some (some x') → ρ id = some (g, c) → ρ id' = some (g, c') → id = id'
def Rel (X : Nat → Prop) (nt : Nat) (s : St) (ρ : Pl) (a : Act) (w : World) : Prop := RelT X nt (getT s.t) (getO s.o) ρ a w

/-- how the objects may change -/
def sameShape : Obj → Obj → Prop
  | .row e t xs, .row e' t' xs' => e = e' ∧ ∃ h : t = t', xs.length = xs'.length
  | .box _ _, .box _ _ => True
  | _, _ => False

structure Fr (w0 : World) (M : Nat → Prop) (w : World) : Prop where
  os : w.os = w0.os
  tape : w.tape = w0.tape
  output : w.output = w0.output
  size : w0.heap.size ≤ w.heap.size
  block : ∀ k, k < w0.heap.size → ¬ M k → w.heap[k]? = w0.heap[k]?
theorem Fr.refl (w0 : World) (M : Nat → Prop) : Fr w0 M w0 := ⟨rfl, rfl, rfl, Nat.le_refl _, fun _ _ _ => rfl⟩
/-- where things lay at the start, and what they were -/
structure P0 where
  pl : Pl
  o : Look
def MO (mn : List Nat) (ρ0 : P0) (g : Nat) : Prop := ∃ n x c, ρ0.o n = some (some x) ∧ ρ0.pl n = some (g, c)
def SameO (o0 : Look) (n : Nat) (x : Obj) : Prop := ∃ y, o0 n = some (some y) ∧ sameShape y x
structure Inv (X : Nat → Prop) (w0 : World) (ρ0 : P0) (mn : List Nat) (nt : Nat) (s : St) (ρ : Pl) (a : Act) (w : World) : Prop where
  rel : Rel X nt s ρ a w
  fr : Fr w0 (MO mn ρ0) w
  own : ∀ id x g c, getO s.o id = some (some x) → ρ id = some (g, c) → w0.heap.size ≤ g ∨ MO mn ρ0 g
  mt : ∀ n ∈ mn, ∀ x, getO s.o n = some (some x) → ρ n = ρ0.pl n ∧ SameO ρ0.o n x
  x : ∀ g, X g → g < w0.heap.size ∧ ¬ MO mn ρ0 g

/-- what was readable is readable still -/
def Keep (w : World) (B : Nat → Prop) (w' : World) (B' : Nat → Prop) : Prop :=
  w.heap.size ≤ w'.heap.size ∧ ∀ b, b < w.heap.size → ¬ B b → ¬ B' b ∧ w'.heap[b]? = w.heap[b]?
theorem Keep.refl (w : World) (B : Nat → Prop) : Keep w B w B := ⟨Nat.le_refl _, fun _ _ h => ⟨h, rfl⟩⟩
theorem cell_of_heap {w w' : World} {b o : Nat} (h : w'.heap[b]? = w.heap[b]?) : w'.cell? ⟨b, o, none⟩ = w.cell? ⟨b, o, none⟩ := by
  simp [World.cell?, h]
theorem cell_lt {w : World} {a : Addr} {v : Value} (h : w.cell? a = some v) : a.block < w.heap.size := World.block_lt_of_cell? w a h
theorem SlR.keep {α : Type} {E E' : α → (Nat → Option Value) → Prop} {sz : Nat} {w w' : World} {B B' : Nat → Prop} {xs : List α} {cl : Bool} {v : Value}
    (hk : Keep w B w' B') (hE : ∀ x c, E x c → E' x c) (h : SlR E sz w B xs cl v) : SlR E' sz w' B' xs cl v := by
  obtain ⟨A, n, c, rfl, hn, hcl, hc, hp⟩ := h
  refine ⟨A, n, c, rfl, hn, hcl, hc, fun h0 => ?_⟩
  obtain ⟨b, o, rfl, hb, hB, hx⟩ := hp h0
  obtain ⟨hB', hh⟩ := hk.2 b hb hB
  refine ⟨b, o, rfl, Nat.lt_of_lt_of_le hb hk.1, hB', fun i hi => ?_⟩
  have := hE _ _ (hx i hi)
  rw [show (fun j => w'.cell? ⟨b, o + i * sz + j, none⟩) = (fun j => w.cell? ⟨b, o + i * sz + j, none⟩) from funext fun j => cell_of_heap hh]
  exact this
theorem ElR.keep {w w' : World} {B B' : Nat → Prop} (hk : Keep w B w' B') : ∀ (t : Ty) (x : t.den) (c : Nat → Option Value), ElR w B t x c → ElR w' B' t x c
  | .int _, _, _, h => h
  | .bool, _, _, h => h
  | .str, _, _, h => h
  | .ii, _, _, h => h
  | .sl t, _, _, ⟨v, hv, h⟩ => ⟨v, hv, h.keep hk fun x c => ElR.keep hk t x c⟩
def Ext (o : Look) (ρ : Pl) (o' : Look) (ρ' : Pl) : Prop :=
  ∀ id, match o id with
    | none => True
    | some none => o' id = some none
    | some (some x) => o' id = some none ∨ ∃ x', o' id = some (some x') ∧ sameShape x x' ∧ ρ' id = ρ id
theorem sameShape.trans {x y z : Obj} (h : sameShape x y) (k : sameShape y z) : sameShape x z := by
  cases x <;> cases y <;> cases z <;> simp [sameShape] at h k ⊢
  obtain ⟨rfl, rfl, h⟩ := h
  obtain ⟨rfl, rfl, k⟩ := k
  exact ⟨rfl, rfl, h.trans k⟩
theorem sameShape.refl (x : Obj) : sameShape x x := by cases x <;> simp [sameShape]
theorem Ext.refl (o : Look) (ρ : Pl) : Ext o ρ o ρ := fun id => by
  split
  · trivial
  · assumption
  · rename_i x h; exact .inr ⟨x, h, sameShape.refl x, rfl⟩
theorem RwR.one {pl : Option (Nat × Nat)} {sz n : Nat} {win : Option (Int × Int)} {u : Value} (h : RwR pl sz n win u) : u.oneCell' = true := by
  cases win with
  | none =>
    cases pl with
    | none => obtain ⟨rfl, _⟩ := h; rfl
    | some p => obtain ⟨rfl, _⟩ := h; rfl
  | some p => obtain ⟨_, _, _, A, c, rfl, _⟩ := h; rfl
theorem PtR.one {pl : Option (Nat × Nat)} {x : Obj} {i : Int} {f : Nat} {u : Value} (h : PtR pl x i f u) : u.oneCell' = true := by
  cases x with
  | row e t xs => obtain ⟨_, _, g, c, _, rfl⟩ := h; rfl
  | box e ls => obtain ⟨_, g, c, _, rfl⟩ := h; rfl
theorem PtR.shape {pl pl' : Option (Nat × Nat)} {x x' : Obj} {i : Int} {f : Nat} {u : Value} (hs : sameShape x x') (hp : pl' = pl) (h : PtR pl x i f u) : PtR pl' x' i f u := by
  subst hp
  cases x with
  | row e t xs =>
    cases x' with
    | row e' t' xs' =>
      obtain ⟨rfl, rfl, hl⟩ := hs
      obtain ⟨h1, h2, h3⟩ := h
      exact ⟨h1, by rw [← hl]; exact h2, h3⟩
    | box e' ls' => exact hs.elim
  | box e ls =>
    cases x' with
    | row e' t' xs' => exact hs.elim
    | box e' ls' => exact h
theorem LR.one {o : Look} {ρ : Pl} {w : World} {B : Nat → Prop} {x : L} {u : Value} (hx : x.isUn = false) (h : LR o ρ w B x u) : u.oneCell' = true := by
  cases x with
  | un => simp [L.isUn] at hx
  | p v => obtain ⟨rfl, h⟩ := h; exact h
  | nil => cases h; rfl
  | ro t xs cl => obtain ⟨A, n, c, rfl, _⟩ := h; rfl
  | rw id win =>
    simp only [LR] at h
    split at h
    · exact h.one
    · exact h
    · exact h.elim
  | ptr id i f =>
    simp only [LR] at h
    split at h
    · exact h.one
    · exact h
    · exact h.elim
  | rp t x f => obtain ⟨b, k, rfl, _⟩ := h; rfl
  | fn f caps => obtain ⟨us, rfl, _⟩ := h; rfl
theorem LR.ext {o o' : Look} {ρ ρ' : Pl} {w w' : World} {B B' : Nat → Prop} (he : Ext o ρ o' ρ') (hk : Keep w B w' B') {x : L} {u : Value}
    (h : LR o ρ w B x u) : LR o' ρ' w' B' x u := by
  cases x with
  | un => trivial
  | p v => exact h
  | nil => exact h
  | ro t xs cl => exact SlR.keep hk (ElR.keep hk t) h
  | rw id win =>
    simp only [LR] at h ⊢
    have hid := he id
    split at h
    · rename_i e t xs hx
      rw [hx] at hid
      simp only at hid
      rcases hid with hid | ⟨x', hid, hs, hp⟩
      · rw [hid]; exact h.one
      · rw [hid]
        cases x' with
        | row e' t' xs' =>
          obtain ⟨rfl, rfl, hl⟩ := hs
          simp only
          rw [hp, ← hl]
          exact h
        | box e' ls' => exact hs.elim
    · rename_i hx
      rw [hx] at hid
      simp only at hid
      rw [hid]
      exact h
    · exact h.elim
  | ptr id i f =>
    simp only [LR] at h ⊢
    have hid := he id
    split at h
    · rename_i x hx
      rw [hx] at hid
      simp only at hid
      rcases hid with hid | ⟨x', hid, hs, hp⟩
      · rw [hid]; exact h.one
      · rw [hid]; exact h.shape hs hp
    · rename_i hx
      rw [hx] at hid
      simp only at hid
      rw [hid]
      exact h
    · exact h.elim
  | rp t x f =>
    obtain ⟨b, k, rfl, hb, hB, hE⟩ := h
    obtain ⟨hB', hh⟩ := hk.2 b hb hB
    refine ⟨b, k, rfl, Nat.lt_of_lt_of_le hb hk.1, hB', ?_⟩
    rw [show (fun j => w'.cell? ⟨b, k + j, none⟩) = (fun j => w.cell? ⟨b, k + j, none⟩) from funext fun j => cell_of_heap hh]
    exact ElR.keep hk t x _ hE
  | fn f caps =>
    obtain ⟨us, rfl, hl, hc⟩ := h
    refine ⟨us, rfl, hl, fun j id c hj hu => ?_⟩
    have h := hc j id c hj hu
    have hid := he id
    split at h
    · rename_i x hx
      rw [hx] at hid
      simp only at hid
      rcases hid with hid | ⟨x', hid, hs, hp⟩
      · rw [hid]; exact h.one
      · rw [hid]; exact h.shape hs hp
    · rename_i hx
      rw [hx] at hid
      simp only at hid
      rw [hid]
      exact h
    · exact h.elim
section
variable {o o' : Look} {ρ ρ' : Pl} {w w' : World} {B B' : Nat → Prop} (he : Ext o ρ o' ρ') (hk : Keep w B w' B')
include he hk
theorem LR1.ext {x : L} {u : Value} (h : LR1 o ρ w B x u) : LR1 o' ρ' w' B' x u := ⟨h.1.ext he hk, h.2⟩
theorem AgR.ext {xs : List L} {cs : List Value} (h : AgR o ρ w B xs cs) : AgR o' ρ' w' B' xs cs := ⟨h.1, fun j x c hx hc => (h.2 j x c hx hc).ext he hk⟩
theorem TuR.ext {x : Bool × List L} {u : Value} (h : TuR o ρ w B x u) : TuR o' ρ' w' B' x u := by
  obtain ⟨b, ls⟩ := x
  cases b with
  | true => obtain ⟨cs, rfl, h⟩ := h; exact ⟨cs, rfl, h.ext he hk⟩
  | false =>
    match ls, h with
    | [], _ => trivial
    | [x], h => exact LR.ext he hk h
    | _ :: _ :: _, _ => trivial
theorem VR.ext {x : V} {u : Value} (h : VR o ρ w B x u) : VR o' ρ' w' B' x u := by
  cases x with
  | l x => exact LR.ext he hk h
  | agg xs => obtain ⟨cs, rfl, h⟩ := h; exact ⟨cs, rfl, h.ext he hk⟩
  | tup vs => obtain ⟨us, rfl, hl, h⟩ := h; exact ⟨us, rfl, hl, fun j x c hx hc => (h j x c hx hc).ext he hk⟩
end
theorem ob_block {o : Look} {ρ : Pl} {w : World} {B : Nat → Prop} {id : Nat} {x : Obj} {g c : Nat} (h : OR o ρ w B id x) (hp : ρ id = some (g, c)) :
    g < w.heap.size ∧ ∃ cur e, w.heap[g]? = some (.cells cur e (0, 0)) := by
  cases x with
  | row e t xs =>
    simp only [OR, hp] at h
    obtain ⟨cur, hh, _⟩ := h
    exact ⟨(Array.getElem?_eq_some_iff.1 hh).1, cur, e, hh⟩
  | box e ls =>
    obtain ⟨g', c', cur, hp', hh, _⟩ := h
    rw [hp] at hp'
    cases hp'
    exact ⟨(Array.getElem?_eq_some_iff.1 hh).1, cur, e, hh⟩
/-- an object whose block has not changed -/
theorem OR.ext {o o' : Look} {ρ ρ' : Pl} {w w' : World} {B B' : Nat → Prop} (he : Ext o ρ o' ρ') (hk : Keep w B w' B') {id : Nat} {x : Obj}
    (hp : ρ' id = ρ id) (hb : ∀ g c, ρ id = some (g, c) → w'.heap[g]? = w.heap[g]?) (h : OR o ρ w B id x) : OR o' ρ' w' B' id x := by
  cases x with
  | row e t xs =>
    simp only [OR] at h ⊢
    rw [hp]
    cases hq : ρ id with
    | none => rw [hq] at h; exact h
    | some p =>
      obtain ⟨g, c⟩ := p
      rw [hq] at h
      obtain ⟨cur, hh, h1, h2, h3, h4⟩ := h
      have hg := hb g c hq
      refine ⟨cur, hg.trans hh, h1, h2, h3, fun i hi => ?_⟩
      have := ElR.keep hk t _ _ (h4 i hi)
      rw [show (fun j => w'.cell? ⟨g, i * t.sz + j, none⟩) = (fun j => w.cell? ⟨g, i * t.sz + j, none⟩) from funext fun j => cell_of_heap hg]
      exact this
  | box e ls =>
    obtain ⟨g, c, cur, hq, hh, ha⟩ := h
    exact ⟨g, c, cur, hp.trans hq, (hb g c hq).trans hh, ha.ext he hk⟩
end Go.Pm

set_option linter.unusedVariables false
set_option linter.unusedSimpArgs false
namespace Go.Pm
open Go.RowKit

theorem getT_cons (k : Nat) (v : V) (l : List (Nat × V)) (n : Nat) : getT ((k, v) :: l) n = if k = n then v else getT l n := by
  simp only [getT]
  by_cases h : k = n
  · subst h; simp
  · have : Nat.beq k n = false := by
      cases hb : Nat.beq k n with
      | false => rfl
      | true => exact absurd (Nat.eq_of_beq_eq_true hb) h
    simp [h, this]
theorem getO_cons (k : Nat) (v : Option Obj) (l : Objs) (n : Nat) : getO ((k, v) :: l) n = if k = n then some v else getO l n := by
  simp only [getO]
  by_cases h : k = n
  · subst h; simp
  · have : Nat.beq k n = false := by
      cases hb : Nat.beq k n with
      | false => rfl
      | true => exact absurd (Nat.eq_of_beq_eq_true hb) h
    simp [h, this]

section
variable {X : Nat → Prop} {w0 : World} {ρ0 : P0} {mn : List Nat} {nt : Nat} {s s' : St} {ρ ρ' : Pl} {a : Act} {w w' : World}

theorem RelT.congr {ev ev' : Nat → V} {o o' : Look} (h : RelT X nt ev o ρ a w) (he : ∀ k, ev' k = ev k) (ho : ∀ id, o' id = o id) : RelT X nt ev' o' ρ a w := by
  have h1 : ev' = ev := funext he
  have h2 : o' = o := funext ho
  subst h1; subst h2; exact h
theorem Inv.congr (h : Inv X w0 ρ0 mn nt s ρ a w) (he : ∀ k, getT s'.t k = getT s.t k) (ho : ∀ id, getO s'.o id = getO s.o id) : Inv X w0 ρ0 mn nt s' ρ a w :=
  ⟨RelT.congr h.rel he ho, h.fr, fun id x g c hx => h.own id x g c (by rw [← ho]; exact hx), fun n hn x hx => h.mt n hn x (by rw [← ho]; exact hx), h.x⟩

theorem act_put_get (a : Act) (d : Nat) (u : Value) (k : Nat) (hd : d < a.tmps.size) : (a.put (some d) u).tmps.getD k undef = if d = k then u else a.tmps.getD k undef := by
  simp only [Act.put, Array.getD_eq_getD_getElem?, Array.getElem?_setIfInBounds]
  by_cases h : d = k
  · subst h; simp [hd]
  · simp [h]

theorem Inv.put (h : Inv X w0 ρ0 mn nt s ρ a w) (dst : Option Nat) (hd : ∀ d, dst = some d → d < nt) {v : V} {u : Value}
    (hv : VR (getO s.o) ρ w (BO X (getO s.o) ρ) v u) : Inv X w0 ρ0 mn nt (s.put dst v) ρ (a.put dst u) w := by
  cases dst with
  | none => exact h
  | some d =>
    have hlt := hd d rfl
    refine ⟨⟨?_, ?_, ?_, h.rel.ob, h.rel.inj⟩, h.fr, h.own, h.mt, h.x⟩
    · simpa [Act.put] using h.rel.sz
    · exact h.rel.dn
    · intro k
      rw [act_put_get a d u k (by rw [h.rel.sz]; exact hlt)]
      show VR _ _ _ _ (getT ((d, v) :: s.t) k) _
      rw [getT_cons]
      split
      · exact hv
      · exact h.rel.tm k

/-- the objects change, the slots do not -/
theorem Inv.obj (h : Inv X w0 ρ0 mn nt s ρ a w) (o' : Objs) (ρ' : Pl) (w' : World)
    (hext : Ext (getO s.o) ρ (getO o') ρ') (hkeep : Keep w (BO X (getO s.o) ρ) w' (BO X (getO o') ρ'))
    (hob : ∀ id x, getO o' id = some (some x) →
      (getO s.o id = some (some x) ∧ ρ' id = ρ id ∧ ∀ g c, ρ id = some (g, c) → w'.heap[g]? = w.heap[g]?) ∨ OR (getO o') ρ' w' (BO X (getO o') ρ') id x)
    (hinj : ∀ id id' x x' g c c', getO o' id = some (some x) → getO o' id' = some (some x') → ρ' id = some (g, c) → ρ' id' = some (g, c') → id = id')
    (hfr : Fr w0 (MO mn ρ0) w')
    (hown : ∀ id x g c, getO o' id = some (some x) → ρ' id = some (g, c) → w0.heap.size ≤ g ∨ MO mn ρ0 g)
    (hmt : ∀ n ∈ mn, ∀ x, getO o' n = some (some x) → ρ' n = ρ0.pl n ∧ SameO ρ0.o n x) : Inv X w0 ρ0 mn nt ⟨s.t, o'⟩ ρ' a w' := by
  refine ⟨⟨h.rel.sz, h.rel.dn, fun k => (h.rel.tm k).ext hext hkeep, fun id x hx => ?_, hinj⟩, hfr, hown, hmt, h.x⟩
  rcases hob id x hx with ⟨h1, h2, h3⟩ | h1
  · exact (h.rel.ob id x h1).ext hext hkeep h2 h3
  · exact h1

theorem Fr.step {M : Nat → Prop} (h : Fr w0 M w) (hos : w'.os = w.os) (htape : w'.tape = w.tape) (hout : w'.output = w.output) (hs : w.heap.size ≤ w'.heap.size)
    (hb : ∀ k, k < w.heap.size → ¬ (w0.heap.size ≤ k ∨ M k) → w'.heap[k]? = w.heap[k]?) : Fr w0 M w' :=
  ⟨hos.trans h.os, htape.trans h.tape, hout.trans h.output, Nat.le_trans h.size hs, fun k hk hm =>
    (hb k (Nat.lt_of_lt_of_le hk h.size) (by rintro (h1 | h1); omega; exact hm h1)).trans (h.block k hk hm)⟩

theorem BO_lt (h : Inv X w0 ρ0 mn nt s ρ a w) {g : Nat} (hb : BO X (getO s.o) ρ g) : g < w.heap.size := by
  rcases hb with hb | ⟨id, x, c, hx, hp⟩
  · have := (h.x g hb).1; have := h.fr.size; omega
  · exact (ob_block (h.rel.ob id x hx) hp).1

/-- only the count of draws has changed -/
theorem Inv.drew (h : Inv X w0 ρ0 mn nt s ρ a w) (hh : w'.heap = w.heap) (hos : w'.os = w.os) (htape : w'.tape = w.tape) (hout : w'.output = w.output) : Inv X w0 ρ0 mn nt s ρ a w' := by
  have := h.obj s.o ρ w' (Ext.refl _ _) ⟨by rw [hh]; exact Nat.le_refl _, fun b _ hB => ⟨hB, by rw [hh]⟩⟩
    (fun id x hx => .inl ⟨hx, rfl, fun g c _ => by rw [hh]⟩) h.rel.inj (h.fr.step hos htape hout (by rw [hh]; exact Nat.le_refl _) fun k _ _ => by rw [hh]) h.own h.mt
  exact this

/-- a new object in a new block -/
theorem Inv.new (h : Inv X w0 ρ0 mn nt s ρ a w) (id : Nat) (x : Obj) (g c : Nat) (hid : getO s.o id = none) (hmn : id ∉ mn)
    (hos : w'.os = w.os) (htape : w'.tape = w.tape) (hout : w'.output = w.output) (hs : w.heap.size ≤ w'.heap.size) (hg : w.heap.size ≤ g)
    (hb : ∀ k, k < w.heap.size → w'.heap[k]? = w.heap[k]?)
    (hx : ∀ B', (∀ k, B' k → BO X (getO s.o) ρ k ∨ k = g) →
      Ext (getO s.o) ρ (getO ((id, some x) :: s.o)) (fun n => if n = id then some (g, c) else ρ n) →
      Keep w (BO X (getO s.o) ρ) w' B' →
      OR (getO ((id, some x) :: s.o)) (fun n => if n = id then some (g, c) else ρ n) w' B' id x) :
    Inv X w0 ρ0 mn nt ⟨s.t, (id, some x) :: s.o⟩ (fun n => if n = id then some (g, c) else ρ n) a w' := by
  have hne : ∀ n, getO s.o n ≠ none → n ≠ id := fun n hn e => hn (e ▸ hid)
  have hBO : ∀ k, BO X (getO ((id, some x) :: s.o)) (fun n => if n = id then some (g, c) else ρ n) k → BO X (getO s.o) ρ k ∨ k = g := by
    rintro k (hX | ⟨n, y, c', hy, hp⟩)
    · exact .inl (.inl hX)
    by_cases e : n = id
    · subst e
      simp at hp
      exact .inr hp.1.symm
    · rw [getO_cons, if_neg (fun h => e h.symm)] at hy
      simp only [e, if_false] at hp
      exact .inl (.inr ⟨n, y, c', hy, hp⟩)
  have hext : Ext (getO s.o) ρ (getO ((id, some x) :: s.o)) (fun n => if n = id then some (g, c) else ρ n) := by
    intro n
    cases hn : getO s.o n with
    | none => trivial
    | some y =>
      have e := hne n (by rw [hn]; simp)
      cases y with
      | none => simp only; rw [getO_cons, if_neg (fun h => e h.symm)]; exact hn
      | some y =>
        simp only
        refine .inr ⟨y, ?_, sameShape.refl y, by simp [e]⟩
        rw [getO_cons, if_neg (fun h => e h.symm)]; exact hn
  have hkeep : Keep w (BO X (getO s.o) ρ) w' (BO X (getO ((id, some x) :: s.o)) (fun n => if n = id then some (g, c) else ρ n)) :=
    ⟨hs, fun b hb' hB => ⟨fun h1 => by rcases hBO b h1 with h2 | h2; exact hB h2; omega, hb b hb'⟩⟩
  refine h.obj _ _ w' hext hkeep ?_ ?_ (h.fr.step hos htape hout hs fun k hk _ => hb k hk) ?_ ?_
  · intro n y hy
    by_cases e : n = id
    · subst e
      rw [getO_cons, if_pos rfl] at hy
      cases hy
      exact .inr (hx _ hBO hext hkeep)
    · rw [getO_cons, if_neg (fun h => e h.symm)] at hy
      refine .inl ⟨hy, by simp [e], fun g' c' hp => hb g' (ob_block (h.rel.ob n y hy) hp).1⟩
  · intro n n' y y' g' c1 c2 hy hy' hp hp'
    by_cases e : n = id <;> by_cases e' : n' = id
    · rw [e, e']
    · subst e
      rw [getO_cons, if_neg (fun h => e' h.symm)] at hy'
      simp only [if_true] at hp
      simp only [e', if_false] at hp'
      have := (ob_block (h.rel.ob n' y' hy') hp').1
      cases hp
      omega
    · subst e'
      rw [getO_cons, if_neg (fun h => e h.symm)] at hy
      simp only [if_true] at hp'
      simp only [e, if_false] at hp
      have := (ob_block (h.rel.ob n y hy) hp).1
      cases hp'
      omega
    · rw [getO_cons, if_neg (fun h => e h.symm)] at hy
      rw [getO_cons, if_neg (fun h => e' h.symm)] at hy'
      simp only [e, if_false] at hp
      simp only [e', if_false] at hp'
      exact h.rel.inj n n' y y' g' c1 c2 hy hy' hp hp'
  · intro n y g' c' hy hp
    by_cases e : n = id
    · subst e
      simp at hp
      have := h.fr.size
      exact .inl (by omega)
    · rw [getO_cons, if_neg (fun h => e h.symm)] at hy
      simp only [e, if_false] at hp
      exact h.own n y g' c' hy hp
  · intro n hn y hy
    have e : n ≠ id := fun e => hmn (e ▸ hn)
    rw [getO_cons, if_neg (fun h => e h.symm)] at hy
    simp only [e, if_false]
    exact h.mt n hn y hy

/-- an object is written in its block -/
theorem Inv.upd (h : Inv X w0 ρ0 mn nt s ρ a w) (id : Nat) (x x' : Obj) (g c : Nat) (hid : getO s.o id = some (some x)) (hp : ρ id = some (g, c)) (hss : sameShape x x')
    (hos : w'.os = w.os) (htape : w'.tape = w.tape) (hout : w'.output = w.output) (hs : w'.heap.size = w.heap.size)
    (hb : ∀ k, k ≠ g → w'.heap[k]? = w.heap[k]?)
    (hx : Ext (getO s.o) ρ (getO ((id, some x') :: s.o)) ρ → Keep w (BO X (getO s.o) ρ) w' (BO X (getO s.o) ρ) → (∀ k, BO X (getO ((id, some x') :: s.o)) ρ k ↔ BO X (getO s.o) ρ k) →
      OR (getO ((id, some x') :: s.o)) ρ w' (BO X (getO s.o) ρ) id x') :
    Inv X w0 ρ0 mn nt ⟨s.t, (id, some x') :: s.o⟩ ρ a w' := by
  have hBO : ∀ k, BO X (getO ((id, some x') :: s.o)) ρ k ↔ BO X (getO s.o) ρ k := by
    intro k
    constructor
    · rintro (hX | ⟨n, y, c', hy, hq⟩)
      · exact .inl hX
      by_cases e : n = id
      · subst e; exact .inr ⟨n, x, c', hid, hq⟩
      · rw [getO_cons, if_neg (fun h => e h.symm)] at hy; exact .inr ⟨n, y, c', hy, hq⟩
    · rintro (hX | ⟨n, y, c', hy, hq⟩)
      · exact .inl hX
      by_cases e : n = id
      · subst e; exact .inr ⟨n, x', c', by rw [getO_cons, if_pos rfl], hq⟩
      · exact .inr ⟨n, y, c', by rw [getO_cons, if_neg (fun h => e h.symm)]; exact hy, hq⟩
  have hext : Ext (getO s.o) ρ (getO ((id, some x') :: s.o)) ρ := by
    intro n
    by_cases e : n = id
    · subst e; rw [hid]; simp only; exact .inr ⟨x', by rw [getO_cons, if_pos rfl], hss, by first | rfl | trivial⟩
    · rw [getO_cons, if_neg (fun h => e h.symm)]; exact Ext.refl _ _ n
  have hgB : BO X (getO s.o) ρ g := .inr ⟨id, x, c, hid, hp⟩
  have hkeep : Keep w (BO X (getO s.o) ρ) w' (BO X (getO s.o) ρ) := ⟨by omega, fun b _ hB => ⟨hB, hb b fun e => hB (e ▸ hgB)⟩⟩
  have hBe : BO X (getO ((id, some x') :: s.o)) ρ = BO X (getO s.o) ρ := funext fun k => propext (hBO k)
  refine h.obj _ ρ w' hext (by rw [hBe]; exact hkeep) ?_ ?_ (h.fr.step hos htape hout (by omega) fun k hk hn => hb k fun e => hn (e ▸ h.own id x g c hid hp)) ?_ ?_
  · intro n y hy
    by_cases e : n = id
    · subst e
      rw [getO_cons, if_pos rfl] at hy
      cases hy
      rw [hBe]
      exact .inr (hx hext hkeep hBO)
    · rw [getO_cons, if_neg (fun h => e h.symm)] at hy
      exact .inl ⟨hy, rfl, fun g' c' hq => hb g' fun e' => e (h.rel.inj n id y x g c' c hy hid (e' ▸ hq) hp)⟩
  · intro n n' y y' g' c1 c2 hy hy' hq hq'
    have real : ∀ n y, getO ((id, some x') :: s.o) n = some (some y) → ∃ y', getO s.o n = some (some y') := by
      intro n y hy
      by_cases e : n = id
      · subst e; exact ⟨x, hid⟩
      · rw [getO_cons, if_neg (fun h => e h.symm)] at hy; exact ⟨y, hy⟩
    obtain ⟨z, hz⟩ := real n y hy
    obtain ⟨z', hz'⟩ := real n' y' hy'
    exact h.rel.inj n n' z z' g' c1 c2 hz hz' hq hq'
  · intro n y g' c' hy hq
    by_cases e : n = id
    · subst e; exact h.own n x g' c' hid hq
    · rw [getO_cons, if_neg (fun h => e h.symm)] at hy; exact h.own n y g' c' hy hq
  · intro n hn y hy
    by_cases e : n = id
    · subst e
      rw [getO_cons, if_pos rfl] at hy
      cases hy
      obtain ⟨h1, z, h2, h3⟩ := h.mt n hn x hid
      exact ⟨h1, z, h2, h3.trans hss⟩
    · rw [getO_cons, if_neg (fun h => e h.symm)] at hy; exact h.mt n hn y hy

/-- what a row's slice reads as -/
theorem winOf_ro (h : Inv X w0 ρ0 mn nt s ρ a w) {id : Nat} {e : TypeId} {t : Ty} {xs : List t.den} (hid : getO s.o id = some (some (.row e t xs))) {win : Option (Int × Int)} {u : Value}
    (hr : RwR (ρ id) t.sz xs.length win u) (B' : Nat → Prop) (hB : ∀ k, B' k → BO X (getO s.o) ρ k) (hB' : ∀ g c, ρ id = some (g, c) → ¬ B' g) : SlR (ElR w B' t) t.sz w B' (winOf xs win) false u := by
  have ho := h.rel.ob id _ hid
  simp only [OR] at ho
  have hk : Keep w (BO X (getO s.o) ρ) w B' := ⟨Nat.le_refl _, fun b _ hn => ⟨fun h1 => hn (hB b h1), rfl⟩⟩
  cases win with
  | none =>
    simp only [RwR] at hr
    cases hp : ρ id with
    | none =>
      rw [hp] at hr ho
      obtain ⟨rfl, h0⟩ := hr
      exact ⟨none, 0, 0, rfl, by simpa [winOf] using h0, by simp, Nat.le_refl _, fun h => by omega⟩
    | some p =>
      obtain ⟨g, c⟩ := p
      rw [hp] at hr ho
      obtain ⟨rfl, hc⟩ := hr
      obtain ⟨cur, hh, h1, h2, h3, h4⟩ := ho
      refine ⟨_, _, _, rfl, rfl, by simp, hc, fun _ => ⟨g, 0, rfl, (Array.getElem?_eq_some_iff.1 hh).1, hB' g c hp, fun i hi => ?_⟩⟩
      have := ElR.keep hk t _ _ (h4 i hi)
      simp only [Nat.zero_add]
      exact this
  | some q =>
    obtain ⟨i0, m⟩ := q
    simp only [RwR] at hr
    obtain ⟨ha, hm, hl, A, c, rfl, hc, hA⟩ := hr
    have hlen : (winOf xs (some (i0, m))).length = m.toNat := by simp [winOf]; omega
    refine ⟨A, m.toNat, c, rfl, hlen, by simp, hc, fun h0 => ?_⟩
    obtain ⟨g, c', hp, rfl⟩ := hA.1 (by omega)
    rw [hp] at ho
    obtain ⟨cur, hh, h1, h2, h3, h4⟩ := ho
    refine ⟨g, _, rfl, (Array.getElem?_eq_some_iff.1 hh).1, hB' g c' hp, fun i hi => ?_⟩
    have hi' : i0.toNat + i < xs.length := by rw [hlen] at hi; omega
    have := ElR.keep hk t _ _ (h4 (i0.toNat + i) hi')
    have e1 : (winOf xs (some (i0, m)))[i] = xs[i0.toNat + i] := by simp [winOf]
    rw [e1]
    rw [show (fun j => w.cell? ⟨g, i0.toNat * t.sz + i * t.sz + j, none⟩) = (fun j => w.cell? ⟨g, (i0.toNat + i) * t.sz + j, none⟩) from funext fun j => by rw [Nat.add_mul]]
    exact this
end
end Go.Pm

set_option linter.unusedVariables false
set_option linter.unusedSimpArgs false
namespace Go.Pm
open Go.RowKit

def frzObj (id : Nat) (t : Ty) (xs : List t.den) : Obj → Obj
  | .box e ls => .box e (ls.map (frzL id t xs))
  | x => x
theorem getT_frz (id : Nat) (t : Ty) (xs : List t.den) (k : Nat) : ∀ l : List (Nat × V), getT (l.map fun x => (x.1, frzV id t xs x.2)) k = frzV id t xs (getT l k)
  | [] => rfl
  | (n, v) :: r => by
    rw [List.map_cons, getT_cons, getT_cons, getT_frz id t xs k r]
    split <;> rfl
theorem getO_frz (id : Nat) (t : Ty) (xs : List t.den) (k : Nat) : ∀ l : Objs, getO (l.map (frzO id t xs)) k = (getO l k).map (Option.map (frzObj id t xs))
  | [] => rfl
  | (n, none) :: r => by
    rw [List.map_cons]
    show getO ((n, none) :: _) k = _
    rw [getO_cons, getO_cons, getO_frz id t xs k r]
    split <;> rfl
  | (n, some (.row _ _ _)) :: r => by
    rw [List.map_cons]
    show getO ((n, some (.row _ _ _)) :: _) k = _
    rw [getO_cons, getO_cons, getO_frz id t xs k r]
    split <;> rfl
  | (n, some (.box e ls)) :: r => by
    rw [List.map_cons]
    show getO ((n, some (.box e (ls.map (frzL id t xs)))) :: _) k = _
    rw [getO_cons, getO_cons, getO_frz id t xs k r]
    split <;> rfl
theorem frzL_isUn_ne (id : Nat) (t : Ty) (xs : List t.den) (x : L) : True := trivial

section
variable {X : Nat → Prop} {w0 : World} {ρ0 : P0} {mn : List Nat} {nt : Nat} {s : St} {ρ : Pl} {a : Act} {w : World}

theorem Inv.frz (h : Inv X w0 ρ0 mn nt s ρ a w) (id : Nat) : Inv X w0 ρ0 mn nt (s.frz id) ρ a w := by
  unfold St.frz
  split
  case h_2 => exact h
  rename_i e t xs hid
  have ho' : ∀ n, getO ((id, none) :: s.o.map (frzO id t xs)) n = if id = n then some none else (getO s.o n).map (Option.map (frzObj id t xs)) := by
    intro n; rw [getO_cons, getO_frz]
  have hBO : ∀ k, BO X (getO ((id, none) :: s.o.map (frzO id t xs))) ρ k → BO X (getO s.o) ρ k ∧ ∀ c, ρ id ≠ some (k, c) := by
    rintro k (hX | ⟨n, y, c, hy, hp⟩)
    · refine ⟨.inl hX, fun c hc => ?_⟩
      obtain ⟨h1, h2⟩ := h.x k hX
      rcases h.own id _ k c hid hc with h3 | h3
      · omega
      · exact h2 h3
    rw [ho'] at hy
    by_cases en : id = n
    · rw [if_pos en] at hy; cases hy
    · rw [if_neg en] at hy
      cases hn : getO s.o n with
      | none => rw [hn] at hy; cases hy
      | some z =>
        cases z with
        | none => rw [hn] at hy; cases hy
        | some z => exact ⟨.inr ⟨n, z, c, hn, hp⟩, fun c' hc' => en (h.rel.inj id n _ z k c' c hid hn hc' hp)⟩
  generalize ho : getO ((id, none) :: s.o.map (frzO id t xs)) = o' at ho' hBO
  have hkeep : Keep w (BO X (getO s.o) ρ) w (BO X o' ρ) := ⟨Nat.le_refl _, fun b _ hn => ⟨fun h1 => hn (hBO b h1).1, rfl⟩⟩
  have hleaf : ∀ (x : L) (u : Value), LR (getO s.o) ρ w (BO X (getO s.o) ρ) x u → LR o' ρ w (BO X o' ρ) (frzL id t xs x) u := by
    intro x u hx
    cases x with
    | un => trivial
    | p v => exact hx
    | nil => exact hx
    | ro t' ys cl => exact SlR.keep hkeep (ElR.keep hkeep t') hx
    | rp t' y f =>
      obtain ⟨b, k, rfl, hb, hB, hE⟩ := hx
      exact ⟨b, k, rfl, hb, (hkeep.2 b hb hB).1, ElR.keep hkeep t' y _ hE⟩
    | rw j win =>
      simp only [frzL]
      by_cases ej : j = id
      · subst ej
        simp only [Nat.beq_refl, cond_true]
        simp only [LR, hid] at hx
        exact winOf_ro h hid hx _ (fun k hk => (hBO k hk).1) (fun g c hp hb => (hBO g hb).2 c hp)
      · have : Nat.beq j id = false := by
          cases hb : Nat.beq j id with
          | false => rfl
          | true => exact absurd (Nat.eq_of_beq_eq_true hb) ej
        simp only [this, cond_false]
        simp only [LR] at hx ⊢
        rw [ho', if_neg (fun e => ej e.symm)]
        split at hx
        · rename_i hn; rw [hn]; exact hx
        · rename_i hn; rw [hn]; exact hx
        · exact hx.elim
    | ptr j i f =>
      simp only [frzL]
      by_cases ej : j = id
      · subst ej
        simp only [Nat.beq_refl, cond_true]
        trivial
      · have : Nat.beq j id = false := by
          cases hb : Nat.beq j id with
          | false => rfl
          | true => exact absurd (Nat.eq_of_beq_eq_true hb) ej
        simp only [this, cond_false]
        simp only [LR] at hx ⊢
        rw [ho', if_neg (fun e => ej e.symm)]
        split at hx
        · rename_i y hn
          rw [hn]
          cases y <;> exact hx
        · rename_i hn; rw [hn]; exact hx
        · exact hx.elim
    | fn f caps =>
      obtain ⟨us, rfl, hl, hc⟩ := hx
      refine ⟨us, rfl, hl, fun j n c hj hu => ?_⟩
      have hq := hc j n c hj hu
      rw [ho']
      by_cases en : id = n
      · subst en
        rw [if_pos rfl]
        rw [hid] at hq
        exact PtR.one hq
      · rw [if_neg en]
        split at hq
        · rename_i y hn
          rw [hn]
          cases y <;> exact hq
        · rename_i hn; rw [hn]; exact hq
        · exact hq.elim
  have hag : ∀ (ls : List L) (cs : List Value), AgR (getO s.o) ρ w (BO X (getO s.o) ρ) ls cs → AgR o' ρ w (BO X o' ρ) (ls.map (frzL id t xs)) cs := by
    intro ls cs ⟨h1, h2⟩
    refine ⟨by simpa using h1, fun j x c hx hc => ?_⟩
    rw [List.getElem?_map] at hx
    cases hj : ls[j]? with
    | none => rw [hj] at hx; cases hx
    | some y =>
      rw [hj] at hx
      cases hx
      exact ⟨hleaf y c (h2 j y c hj hc).1, (h2 j y c hj hc).2⟩
  refine ⟨⟨h.rel.sz, h.rel.dn, ?_, ?_, ?_⟩, h.fr, ?_, ?_, h.x⟩
  · intro k
    show VR (getO ((id, none) :: s.o.map (frzO id t xs))) _ _ (BO X (getO ((id, none) :: s.o.map (frzO id t xs))) ρ) (getT (s.t.map fun x => (x.1, frzV id t xs x.2)) k) _
    rw [ho, getT_frz]
    have hv := h.rel.tm k
    generalize a.tmps.getD k undef = u at hv ⊢
    generalize getT s.t k = v at hv ⊢
    cases v with
    | l x => exact hleaf x u hv
    | agg ls => obtain ⟨cs, rfl, hv⟩ := hv; exact ⟨cs, rfl, hag ls _ hv⟩
    | tup vs =>
      obtain ⟨us, rfl, hl, hv⟩ := hv
      refine ⟨us, rfl, by simpa using hl, fun j x c hx hc => ?_⟩
      rw [List.getElem?_map] at hx
      cases hj : vs[j]? with
      | none => rw [hj] at hx; cases hx
      | some y =>
        rw [hj] at hx
        cases hx
        have := hv j y c hj hc
        obtain ⟨b, ls⟩ := y
        cases b with
        | true => obtain ⟨cs, rfl, h3⟩ := this; exact ⟨cs, rfl, hag ls _ h3⟩
        | false =>
          match ls, this with
          | [], _ => trivial
          | [x], h3 => exact hleaf x c h3
          | _ :: _ :: _, _ => trivial
  · intro n y hy
    show OR (getO ((id, none) :: s.o.map (frzO id t xs))) ρ w (BO X (getO ((id, none) :: s.o.map (frzO id t xs))) ρ) n y
    rw [ho]
    replace hy : o' n = some (some y) := by rw [← ho]; exact hy
    rw [ho'] at hy
    by_cases en : id = n
    · rw [if_pos en] at hy; cases hy
    · rw [if_neg en] at hy
      cases hn : getO s.o n with
      | none => rw [hn] at hy; cases hy
      | some z =>
        rw [hn] at hy
        cases z with
        | none => cases hy
        | some z =>
          cases hy
          have hob := h.rel.ob n z hn
          cases z with
          | row e' t' ys =>
            simp only [frzObj]
            simp only [OR] at hob ⊢
            split at hob
            · rename_i hp; exact hob
            · rename_i g c hp
              obtain ⟨cur, hh, h1, h2, h3, h4⟩ := hob
              exact ⟨cur, hh, h1, h2, h3, fun i hi => ElR.keep hkeep t' _ _ (h4 i hi)⟩
          | box e' ls =>
            obtain ⟨g, c, cur, hp, hh, ha⟩ := hob
            exact ⟨g, c, cur, hp, hh, hag ls _ ha⟩
  · intro n n' y y' g c c' hy hy' hp hp'
    replace hy : o' n = some (some y) := by rw [← ho]; exact hy
    replace hy' : o' n' = some (some y') := by rw [← ho]; exact hy'
    have real : ∀ n y, o' n = some (some y) → ∃ z, getO s.o n = some (some z) := by
      intro n y hy
      rw [ho'] at hy
      split at hy
      · cases hy
      · cases hn : getO s.o n with
        | none => rw [hn] at hy; cases hy
        | some z =>
          cases z with
          | none => rw [hn] at hy; cases hy
          | some z => exact ⟨z, rfl⟩
    obtain ⟨z, hz⟩ := real n y hy
    obtain ⟨z', hz'⟩ := real n' y' hy'
    exact h.rel.inj n n' z z' g c c' hz hz' hp hp'
  · intro n y g c hy hp
    replace hy : o' n = some (some y) := by rw [← ho]; exact hy
    rw [ho'] at hy
    split at hy
    · cases hy
    · cases hn : getO s.o n with
      | none => rw [hn] at hy; cases hy
      | some z =>
        cases z with
        | none => rw [hn] at hy; cases hy
        | some z => exact h.own n z g c hn hp
  · intro n hn' y hy
    replace hy : o' n = some (some y) := by rw [← ho]; exact hy
    rw [ho'] at hy
    split at hy
    · cases hy
    · cases hn : getO s.o n with
      | none => rw [hn] at hy; cases hy
      | some z =>
        cases z with
        | none => rw [hn] at hy; cases hy
        | some z =>
          rw [hn] at hy
          cases hy
          obtain ⟨h1, q, h2, h3⟩ := h.mt n hn' z hn
          refine ⟨h1, q, h2, ?_⟩
          cases q <;> cases z <;> exact h3
theorem Inv.frzIds (ids : List Nat) : ∀ {s : St}, Inv X w0 ρ0 mn nt s ρ a w → Inv X w0 ρ0 mn nt (frzIds s ids) ρ a w := by
  induction ids with
  | nil => intro s h; exact h
  | cons id r ih => intro s h; exact ih (h.frz id)
theorem BO_frz (s : St) (ρ : Pl) (id k : Nat) (h : BO X (getO (s.frz id).o) ρ k) : BO X (getO s.o) ρ k := by
  rcases h with hX | ⟨n, y, c, hy, hp⟩
  · exact .inl hX
  unfold St.frz at hy
  split at hy
  · rename_i e t xs hid
    rw [getO_cons, getO_frz] at hy
    split at hy
    · cases hy
    · cases hn : getO s.o n with
      | none => rw [hn] at hy; cases hy
      | some z =>
        cases z with
        | none => rw [hn] at hy; cases hy
        | some z => exact .inr ⟨n, z, c, hn, hp⟩
  · exact .inr ⟨n, y, c, hy, hp⟩
theorem BO_frzIds (ρ : Pl) (k : Nat) : ∀ (ids : List Nat) (s : St), BO X (getO (frzIds s ids).o) ρ k → BO X (getO s.o) ρ k
  | [], _, h => h
  | id :: r, s, h => BO_frz s ρ id k (BO_frzIds ρ k r (s.frz id) h)
theorem keep_frzIds (w : World) (ρ : Pl) (ids : List Nat) (s : St) : Keep w (BO X (getO s.o) ρ) w (BO X (getO (frzIds s ids).o) ρ) :=
  ⟨Nat.le_refl _, fun b _ hb => ⟨fun h => hb (BO_frzIds ρ b ids s h), rfl⟩⟩
/-- a value that an operation makes stands through the freezing, if it names none of what is frozen -/
theorem frz_look (s : St) (id n : Nat) (hn : n ≠ id) : (getO (s.frz id).o n = getO s.o n) ∨ ∃ e ls ls', getO s.o n = some (some (.box e ls)) ∧ getO (s.frz id).o n = some (some (.box e ls')) := by
  unfold St.frz
  split
  · rename_i e t xs hid
    rw [getO_cons, if_neg (fun e => hn e.symm), getO_frz]
    cases h : getO s.o n with
    | none => exact .inl rfl
    | some z =>
      cases z with
      | none => exact .inl rfl
      | some z =>
        cases z with
        | row _ _ _ => exact .inl rfl
        | box e ls => exact .inr ⟨e, ls, _, rfl, rfl⟩
  · exact .inl rfl
end
end Go.Pm

set_option linter.unusedVariables false
set_option linter.unusedSimpArgs false
namespace Go.Pm
open Go.RowKit

def veq : Value → Value → Bool
  | .int k n, .int k' n' => decide (k = k') && decide (n = n')
  | .bool a, .bool b => a == b
  | .string a, .string b => decide (a = b)
  | .slice none 0 0, .slice none 0 0 => true
  | .pointer none, .pointer none => true
  | .nilFunc, .nilFunc => true
  | .map none, .map none => true
  | _, _ => false
theorem veq_eq {a b : Value} (h : veq a b = true) : a = b := by
  unfold veq at h
  split at h <;> first | (simp at h; done) | simp_all
def veqs : List Value → List Value → Bool
  | [], [] => true
  | a :: as, b :: bs => veq a b && veqs as bs
  | _, _ => false
theorem veqs_eq : ∀ {a b : List Value}, veqs a b = true → a = b
  | [], [], _ => rfl
  | a :: as, b :: bs, h => by
    simp only [veqs, Bool.and_eq_true] at h
    rw [veq_eq h.1, veqs_eq h.2]
  | [], _ :: _, h => by simp [veqs] at h
  | _ :: _, [], h => by simp [veqs] at h
def aggD : TypeDesc → Bool
  | .struct _ | .array _ _ => true
  | _ => false
def Ty.isII : Ty → Bool
  | .ii => true
  | _ => false
def zeroIs (z : Option Value) (cells : List Value) (agg : Bool) : Bool :=
  match z with
  | some (.agg cs) => agg && veqs cs.toList cells
  | some v => !agg && veqs [v] cells
  | none => false
theorem zeroIs_agg {z : Option Value} {cells : List Value} (h : zeroIs z cells true = true) : z = some (.agg cells.toArray) := by
  unfold zeroIs at h
  split at h
  · simp at h
    rw [← veqs_eq h]
  · simp at h
  · cases h
theorem zeroIs_one {z : Option Value} {v : Value} (h : zeroIs z [v] false = true) : z = some v := by
  unfold zeroIs at h
  split at h
  · simp at h
  · simp at h
    have := veqs_eq h
    simp at this
    rw [this]
  · cases h
def elKind : Ty → TypeDesc → Bool
  | .int k, .int k' => decide (k = k')
  | .int _, _ => false
  | _, _ => true
def chkEl (P : Program) (e : TypeId) (t : Ty) : Bool :=
  match P.info? e, P.underlying e with
  | some i, some d => zeroIs i.zero t.zero.cells.toList t.isII && decide (i.size = t.sz) && decide (i.bytes = t.bytes) && (aggD d == t.isII) && elKind t d
  | _, _ => false
def kindOk (d : TypeDesc) (z : Value) : Bool :=
  match z, d with
  | .int k _, .int k' => decide (k = k')
  | .int _ _, _ => false
  | .string _, .string => true
  | .string _, _ => false
  | .bool _, .bool => true
  | .bool _, _ => false
  | _, _ => true
def chkTD (P : Program) (t : TypeId) : TD → Bool
  | .one z => match P.info? t, P.underlying t with
    | some i, some d => z.oneCell' && zeroIs i.zero [z] false && decide (i.size = 1) && !aggD d && kindOk d z
    | _, _ => false
  | .slice e τ => match P.info? t, P.underlying t with
    | some i, some (.slice e') => decide (e = e') && zeroIs i.zero [.slice none 0 0] false && decide (i.size = 1) && chkEl P e τ
    | _, _ => false
  | .struct offs z => match P.info? t, P.underlying t with
    | some i, some (.struct fs) => z.all Value.oneCell' && zeroIs i.zero z true && decide (i.size = z.length) && decide (fs.toList.map (fun f => (f.offset, ((P.info? f.type).map (·.size)).getD 0)) = offs) &&
        offs.all fun x => !decide (x.2 = 0)
    | _, _ => false
  | .ii => match P.info? t, P.underlying t with
    | some i, some (.struct fs) => zeroIs i.zero [.int .i64 0, .int .i64 0] true && decide (i.size = 2) && !P.stoodInHeld t && !P.eqGuardType P.depth t &&
      match fs.toList with
      | [f, g] => decide (f.offset = 0) && decide (g.offset = 1) && !(f.name == "_") && !(g.name == "_") && chkEl P f.type (.int .i64) && chkEl P g.type (.int .i64) &&
          (match P.underlying f.type, P.underlying g.type with
          | some (.int k), some (.int k') => decide (k = .i64) && decide (k' = .i64)
          | _, _ => false)
      | _ => false
    | _, _ => false
  | .other => true
def tdGet : List (TypeId × TD) → TypeId → TD
  | [], _ => .other
  | (k, v) :: r, n => cond (Nat.beq k n) v (tdGet r n)
def chkTab (P : Program) (l : List (TypeId × TD)) : Bool := l.all fun p => chkTD P p.1 p.2
theorem chkTab_get {P : Program} : ∀ {l : List (TypeId × TD)}, chkTab P l = true → ∀ t, chkTD P t (tdGet l t) = true
  | [], _, t => rfl
  | (k, v) :: r, h, t => by
    simp only [chkTab, List.all_cons, Bool.and_eq_true] at h
    simp only [tdGet]
    cases hb : Nat.beq k t with
    | true => simp only [cond_true]; rw [← Nat.eq_of_beq_eq_true hb]; exact h.1
    | false => simp only [cond_false]; exact chkTab_get (l := r) h.2 t

section
variable {P : Program}
theorem okEl {e : TypeId} {t : Ty} (h : chkEl P e t = true) : ∃ i d, P.info? e = some i ∧ i.zero = some t.zero ∧ i.size = t.sz ∧ i.bytes = t.bytes ∧ P.underlying e = some d ∧ aggD d = t.isII := by
  unfold chkEl at h
  split at h
  · rename_i i d hi hd
    simp only [Bool.and_eq_true, decide_eq_true_eq, beq_iff_eq] at h
    obtain ⟨⟨⟨⟨h1, h2⟩, h3⟩, h4⟩, _⟩ := h
    refine ⟨i, d, hi, ?_, h2, h3, hd, h4⟩
    cases t with
    | ii => exact zeroIs_agg h1
    | _ => exact zeroIs_one h1
  · cases h
theorem okElInt {e : TypeId} {k : IntKind} (h : chkEl P e (.int k) = true) : P.underlying e = some (.int k) := by
  unfold chkEl at h
  split at h
  · rename_i i d hi hd
    simp only [Bool.and_eq_true] at h
    have h5 := h.2
    cases d <;> simp [elKind] at h5
    rw [hd, h5]
  · cases h
structure OkOne (P : Program) (t : TypeId) (z : Value) : Prop where
  one : z.oneCell' = true
  ex : ∃ i d, P.info? t = some i ∧ i.zero = some z ∧ i.size = 1 ∧ P.underlying t = some d ∧ aggD d = false ∧ kindOk d z = true
theorem okOne {t : TypeId} {z : Value} (h : chkTD P t (.one z) = true) : OkOne P t z := by
  simp only [chkTD] at h
  split at h
  · rename_i i d hi hd
    simp only [Bool.and_eq_true, decide_eq_true_eq, Bool.not_eq_true'] at h
    obtain ⟨⟨⟨⟨h1, h2⟩, h3⟩, h4⟩, h5⟩ := h
    exact ⟨h1, i, d, hi, zeroIs_one h2, h3, hd, h4, h5⟩
  · cases h
theorem okSlice {t e : TypeId} {τ : Ty} (h : chkTD P t (.slice e τ) = true) : P.underlying t = some (.slice e) ∧ chkEl P e τ = true ∧ ∃ i, P.info? t = some i ∧ i.zero = some (.slice none 0 0) ∧ i.size = 1 := by
  simp only [chkTD] at h
  split at h
  · rename_i i e' hi hd
    simp only [Bool.and_eq_true, decide_eq_true_eq] at h
    obtain ⟨⟨⟨rfl, h2⟩, h3⟩, h4⟩ := h
    exact ⟨hd, h4, i, hi, zeroIs_one h2, h3⟩
  · cases h
theorem okStruct {t : TypeId} {offs : List (Nat × Nat)} {z : List Value} (h : chkTD P t (.struct offs z) = true) : (∀ v ∈ z, v.oneCell' = true) ∧ (∃ i, P.info? t = some i ∧ i.zero = some (.agg z.toArray) ∧ i.size = z.length) ∧
    ∃ fs, P.underlying t = some (.struct fs) ∧ fs.toList.map (fun f => (f.offset, ((P.info? f.type).map (·.size)).getD 0)) = offs ∧ ∀ x ∈ offs, x.2 ≠ 0 := by
  simp only [chkTD] at h
  split at h
  · rename_i i fs hi hd
    simp only [Bool.and_eq_true, decide_eq_true_eq, List.all_eq_true] at h
    obtain ⟨⟨⟨⟨h1, h2⟩, h3⟩, h4⟩, h5⟩ := h
    exact ⟨h1, ⟨i, hi, zeroIs_agg h2, h3⟩, fs, hd, h4, fun x hx => by simpa using h5 x hx⟩
  · cases h
structure OkII (P : Program) (t : TypeId) : Prop where
  info : ∃ i, P.info? t = some i ∧ i.zero = some (.agg #[.int .i64 0, .int .i64 0]) ∧ i.size = 2
  fs : ∃ f g, P.underlying t = some (.struct #[f, g]) ∧ f.offset = 0 ∧ g.offset = 1 ∧ (f.name == "_") = false ∧ (g.name == "_") = false ∧
    chkEl P f.type (.int .i64) = true ∧ chkEl P g.type (.int .i64) = true ∧ P.underlying f.type = some (.int .i64) ∧ P.underlying g.type = some (.int .i64)
  stood : P.stoodInHeld t = false
  guard : P.eqGuardType P.depth t = false
theorem okII {t : TypeId} (h : chkTD P t .ii = true) : OkII P t := by
  simp only [chkTD] at h
  split at h
  · rename_i i fs hi hd
    simp only [Bool.and_eq_true, decide_eq_true_eq, Bool.not_eq_true'] at h
    obtain ⟨⟨⟨⟨h1, h2⟩, h3⟩, h4⟩, h5⟩ := h
    split at h5
    · rename_i f g hfs
      simp only [Bool.and_eq_true, decide_eq_true_eq, Bool.not_eq_true'] at h5
      obtain ⟨⟨⟨⟨⟨⟨a1, a2⟩, a3⟩, a4⟩, a5⟩, a6⟩, a7⟩ := h5
      split at a7
      · rename_i k k' hk hk'
        simp only [Bool.and_eq_true, decide_eq_true_eq] at a7
        obtain ⟨rfl, rfl⟩ := a7
        refine ⟨⟨i, hi, zeroIs_agg h1, h2⟩, ⟨f, g, ?_, a1, a2, a3, a4, a5, a6, hk, hk'⟩, h3, h4⟩
        rw [hd]
        have : fs = #[f, g] := by
          apply Array.ext'
          rw [hfs]
        rw [this]
      · cases a7
    · cases h5
  · cases h
/-- the fields -/
theorem okOffs {t : TypeId} {d : TD} (h : chkTD P t d = true) (hag : d.isAgg = true) : ∃ fs i, P.underlying t = some (.struct fs) ∧ P.info? t = some i ∧ i.zero = some (.agg d.cells.toArray) ∧
    ∀ (k f n : Nat), d.offs[k]? = some (f, n) → ∃ fl j, fs[k]? = some fl ∧ fl.offset = f ∧ P.info? fl.type = some j ∧ j.size = n ∧ n ≠ 0 := by
  cases d with
  | struct offs z =>
    obtain ⟨h1, ⟨i, hi, hz, hs⟩, fs, hd, h4, h5⟩ := okStruct h
    refine ⟨fs, i, hd, hi, hz, fun k f n hk => ?_⟩
    have hne : n ≠ 0 := h5 (f, n) (List.mem_of_getElem? hk)
    simp only [TD.offs] at hk
    rw [← h4, List.getElem?_map] at hk
    cases hf : fs.toList[k]? with
    | none => rw [hf] at hk; cases hk
    | some fl =>
      rw [hf] at hk
      simp only [Option.map_some, Option.some.injEq, Prod.mk.injEq] at hk
      obtain ⟨rfl, hk⟩ := hk
      cases hj : P.info? fl.type with
      | none => rw [hj] at hk; simp at hk; exact absurd hk.symm hne
      | some j =>
        rw [hj] at hk
        simp only [Option.map_some, Option.getD_some] at hk
        exact ⟨fl, j, by rw [← Array.getElem?_toList]; exact hf, rfl, hj, hk, hne⟩
  | ii =>
    have h := okII h
    obtain ⟨i, hi, hz, hs⟩ := h.info
    obtain ⟨f, g, hu, hf, hg, _, _, ef, eg, _⟩ := h.fs
    obtain ⟨i1, _, hi1, _, hs1, _⟩ := okEl ef
    obtain ⟨i2, _, hi2, _, hs2, _⟩ := okEl eg
    refine ⟨_, i, hu, hi, hz, fun k o n hk => ?_⟩
    match k, hk with
    | 0, hk => cases hk; exact ⟨f, i1, rfl, hf, hi1, hs1, by decide⟩
    | 1, hk => cases hk; exact ⟨g, i2, rfl, hg, hi2, hs2, by decide⟩
    | k + 2, hk => simp [TD.offs] at hk
  | one z => cases hag
  | slice e t => cases hag
  | other => cases hag
/-- cells, and whether a value of the type is an aggregate -/
theorem okCells {t : TypeId} {d : TD} (h : chkTD P t d = true) (hd : d ≠ .other) : ∃ i u, P.info? t = some i ∧ i.size = d.cells.length ∧ P.underlying t = some u ∧ aggD u = d.isAgg ∧
    (∀ v ∈ d.cells, v.oneCell' = true) ∧ ∃ z, i.zero = some z ∧ z.cells.toList = d.cells := by
  cases d with
  | one z =>
    obtain ⟨h1, i, u, hi, hz, hs, hu, ha, _⟩ := okOne h
    refine ⟨i, u, hi, hs, hu, ha, ?_, z, hz, ?_⟩
    · intro v hv; simp [TD.cells] at hv; rw [hv]; exact h1
    · cases z <;> first | rfl | simp [Value.oneCell'] at h1
  | slice e τ =>
    obtain ⟨hu, _, i, hi, hz, hs⟩ := okSlice h
    exact ⟨i, _, hi, hs, hu, rfl, by intro v hv; simp [TD.cells] at hv; rw [hv]; rfl, _, hz, rfl⟩
  | struct offs z =>
    obtain ⟨h1, ⟨i, hi, hz, hs⟩, fs, hu, _⟩ := okStruct h
    exact ⟨i, _, hi, hs, hu, rfl, h1, _, hz, by simp [Value.cells, TD.cells]⟩
  | ii =>
    have h := okII h
    obtain ⟨i, hi, hz, hs⟩ := h.info
    obtain ⟨f, g, hu, _⟩ := h.fs
    refine ⟨i, _, hi, hs, hu, rfl, ?_, _, hz, rfl⟩
    intro v hv
    simp [TD.cells] at hv
    rw [hv]; rfl
  | other => exact absurd rfl hd
theorem run_sizeOf {t : TypeId} {i : TypeInfo} (hi : P.info? t = some i) (w : World) : (sizeOf t).run P w = .ok i.size w := by simp [sizeOf, typeInfo, hi]
theorem run_zeroValue {t : TypeId} {i : TypeInfo} {z : Value} (hi : P.info? t = some i) (hz : i.zero = some z) (w : World) : (zeroValue t).run P w = .ok z w := by simp [zeroValue, typeInfo, hi, hz]
theorem run_isAgg {t : TypeId} {d : TypeDesc} (hd : P.underlying t = some d) (w : World) : (isAgg t).run P w = .ok (aggD d) w := by
  simp only [isAgg, Sem.run_bind, run_underlying hd, Result.andThen_ok]
  cases d <;> rfl
end

theorem ofLeaf_rel (o : Look) (ρ : Pl) (w : World) (B : Nat → Prop) (v : Value) : LR o ρ w B (ofLeaf v) v := by
  unfold ofLeaf
  split <;> first | rfl | trivial | skip
  rename_i h1 h2 h3
  refine ⟨rfl, ?_⟩
  cases v <;> first | rfl | exact absurd rfl (h2 _) | exact absurd rfl (h3 _)
theorem oneCellB_eq (v : Value) : oneCellB v = v.oneCell' := by cases v <;> rfl
theorem ofConst_rel (o : Look) (ρ : Pl) (w : World) (B : Nat → Prop) (v : Value) : VR o ρ w B (ofConst v) v := by
  unfold ofConst
  split
  · rename_i cs
    cases hall : cs.toList.all oneCellB with
    | false => exact trivial
    | true =>
      refine ⟨cs, rfl, by simp, fun j x c hx hc => ?_⟩
      rw [List.getElem?_map] at hx
      rw [hc] at hx
      cases hx
      refine ⟨ofLeaf_rel o ρ w B c, ?_⟩
      rw [← oneCellB_eq]
      exact List.all_eq_true.1 hall c (List.mem_of_getElem? hc)
  · exact ofLeaf_rel o ρ w B v
section
variable {X : Nat → Prop} {w0 : World} {ρ0 : P0} {mn : List Nat} {nt : Nat} {s : St} {ρ : Pl} {a : Act} {w : World}
theorem Inv.ev (h : Inv X w0 ρ0 mn nt s ρ a w) (x : Operand) : VR (getO s.o) ρ w (BO X (getO s.o) ρ) (s.ev x) (a.eval x) := by
  cases x with
  | tmp t => exact h.rel.tm t
  | const v => exact ofConst_rel _ _ _ _ v
  | global g => trivial
  | func f => exact ⟨[], rfl, rfl, fun j id c hj => by simp at hj⟩
end

def Does (P : Program) (X : Nat → Prop) (w0 : World) (ρ0 : P0) (mn : List Nat) (nt : Nat) (s : St) (e : Eff) (oper : Oper) (a : Act) (w : World) : Prop :=
  ∀ Q : Exit → Act → World → Prop, oper.wp P a w (fun a' w' => ∃ ρ', Inv X w0 ρ0 mn nt (s.app oper.dst e) ρ' a' w') Q

section
variable {P : Program} {X : Nat → Prop} {w0 : World} {ρ0 : P0} {mn : List Nat} {nt : Nat} {s : St} {ρ : Pl} {a : Act} {w : World} {oper : Oper} {e : Eff}
theorem does_val (h : Inv X w0 ρ0 mn nt s ρ a w) (hd : ∀ d, oper.dst = some d → d < nt) {v : V} {u : Value}
    (hr : (execOp a.eval oper).run P w = .ok (.value u) w) (hv : VR (getO s.o) ρ w (BO X (getO s.o) ρ) v u) : Does P X w0 ρ0 mn nt s ⟨v, [], []⟩ oper a w := by
  intro Q
  unfold Oper.wp
  rw [hr]
  exact ⟨ρ, h.put oper.dst hd hv⟩
end
end Go.Pm

set_option linter.unusedVariables false
set_option linter.unusedSimpArgs false
namespace Go.Pm
open Go.RowKit

theorem chk_some {R : Type} {c : Prop} [Decidable c] {k : Option R} {r : R} (h : chk c k = some r) : c ∧ k = some r := by
  unfold chk at h
  split at h
  · exact ⟨‹_›, h⟩
  · cases h
theorem cond_some {R : Type} {b : Bool} {k : Option R} {r : R} (h : cond b k none = some r) : b = true ∧ k = some r := by
  cases b with
  | true => exact ⟨rfl, h⟩
  | false => cases h
theorem cond_some' {R : Type} {b : Bool} {k : Option R} {r : R} (h : cond b none k = some r) : b = false ∧ k = some r := by
  cases b with
  | true => cases h
  | false => exact ⟨rfl, h⟩

section
variable {P : Program} {o : Look} {ρ : Pl} {w : World} {B : Nat → Prop}
theorem VR_p {v u : Value} (h : VR o ρ w B (.l (.p v)) u) : u = v ∧ v.oneCell' = true := h
theorem run_bin {t : TypeId} {td : TD} (htd : chkTD P t td = true) (op : BinOp) (x y : Operand) {vx vy : V} {ux uy : Value} {e : Eff}
    (he : pmBin td op vx vy some = some e) (hx : VR o ρ w B vx ux) (hy : VR o ρ w B vy uy) :
    ∃ v, e = pv v ∧ v.oneCell' = true ∧ (do eqGuard op t x y ux uy; binOp op t ux uy : Sem Value).run P w = .ok v w := by
  unfold pmBin at he
  split at he
  · -- whole numbers
    rename_i k a k' b
    obtain ⟨rfl, _⟩ := VR_p hx
    obtain ⟨rfl, _⟩ := VR_p hy
    rw [eqGuard_at_int]
    simp only [Sem.run_bind, Sem.run_pure, Result.andThen_ok]
    split at he
    · obtain ⟨h0, he⟩ := chk_some he
      cases he
      refine ⟨_, rfl, rfl, ?_⟩
      rw [binOp_shl]
      simp only [Op.shift, if_neg (show ¬ b < 0 by omega)]
      rfl
    · obtain ⟨h0, he⟩ := chk_some he
      cases he
      refine ⟨_, rfl, rfl, ?_⟩
      rw [binOp_shr]
      simp only [Op.shift, if_neg (show ¬ b < 0 by omega)]
      rfl
    · obtain ⟨hk, he1⟩ := cond_some he
      clear he
      obtain rfl := of_decide_eq_true hk
      obtain ⟨h0, he2⟩ := chk_some he1
      cases he2
      refine ⟨_, rfl, rfl, ?_⟩
      rw [binOp_quo]
      simp only [Op.intDiv, if_neg h0]
      rfl
    · obtain ⟨hk, he1⟩ := cond_some he
      clear he
      obtain rfl := of_decide_eq_true hk
      obtain ⟨h0, he2⟩ := chk_some he1
      cases he2
      refine ⟨_, rfl, rfl, ?_⟩
      rw [binOp_rem]
      simp only [Op.intDiv, if_neg h0]
      rfl
    · obtain ⟨hk, he1⟩ := cond_some he
      clear he
      obtain rfl := of_decide_eq_true hk
      cases op <;> simp only [pbin] at he1 <;> first | (cases he1; done) | skip
      all_goals (cases he1; refine ⟨_, rfl, rfl, ?_⟩)
      · rw [binOp_add]; rfl
      · rw [binOp_sub]; rfl
      · rw [binOp_mul]; rfl
      · rw [binOp_and]; rfl
      · rw [binOp_or]; rfl
      · rw [binOp_xor]; rfl
      · rw [binOp_andNot]; rfl
      · rw [binOp_eql]; rfl
      · rw [binOp_neq]; rfl
      · rw [binOp_lss]; rfl
      · rw [binOp_leq]; rfl
      · rw [binOp_gtr]; rfl
      · rw [binOp_geq]; rfl
  · -- bools
    rename_i a b
    obtain ⟨rfl, _⟩ := VR_p hx
    obtain ⟨rfl, _⟩ := VR_p hy
    split at he
    · rename_i z
      obtain ⟨i, d, _, _, _, hu, _, hk⟩ := (okOne htd).ex
      have hb : P.underlying t = some .bool := by
        rw [hu]
        cases d <;> simp [kindOk] at hk ⊢
      split at he
      · cases he
        refine ⟨_, rfl, rfl, ?_⟩
        simp [eqGuard, binOp, run_equal_bool w t a b hb]
      · cases he
        refine ⟨_, rfl, rfl, ?_⟩
        simp [eqGuard, binOp, run_equal_bool w t a b hb]
      · cases he
    · cases he
  · -- strings
    rename_i a b
    obtain ⟨rfl, _⟩ := VR_p hx
    obtain ⟨rfl, _⟩ := VR_p hy
    split at he
    · obtain ⟨h0, he⟩ := chk_some he
      cases he
      refine ⟨_, rfl, rfl, ?_⟩
      have : ¬ (((a.size + b.size : Nat) : Int) > IntKind.i64.max) := by
        have : IntKind.i64.max = 9223372036854775807 := by decide
        rw [this]; omega
      simp [eqGuard, binOp, Op.stringOp]
      have : IntKind.i64.max = 9223372036854775807 := by decide
      omega
    · cases he
      refine ⟨_, rfl, rfl, ?_⟩
      simp [eqGuard, binOp, Op.stringOp]
    · cases he
      refine ⟨_, rfl, rfl, ?_⟩
      simp [eqGuard, binOp, Op.stringOp]
    · cases he
      refine ⟨_, rfl, rfl, ?_⟩
      simp [eqGuard, binOp, Op.stringOp]
    · cases he
  · -- two numbers
    rename_i a b c d
    split at he
    · have hII := okII htd
      obtain ⟨cs, rfl, hcl, hc⟩ := hx
      obtain ⟨ds, rfl, hdl, hd⟩ := hy
      have e1 : cs = #[.int .i64 a, .int .i64 b] := by
        have h0 := hc 0 _ (cs.toList[0]'(by rw [hcl]; simp)) rfl (List.getElem?_eq_getElem _)
        have h1 := hc 1 _ (cs.toList[1]'(by rw [hcl]; simp)) rfl (List.getElem?_eq_getElem _)
        apply Array.ext'
        apply List.ext_getElem (by rw [hcl]; rfl)
        intro n hn _
        match n, hn with
        | 0, _ => exact h0.1.1
        | 1, _ => exact h1.1.1
        | n + 2, hn => rw [hcl] at hn; simp at hn; omega
      have e2 : ds = #[.int .i64 c, .int .i64 d] := by
        have h0 := hd 0 _ (ds.toList[0]'(by rw [hdl]; simp)) rfl (List.getElem?_eq_getElem _)
        have h1 := hd 1 _ (ds.toList[1]'(by rw [hdl]; simp)) rfl (List.getElem?_eq_getElem _)
        apply Array.ext'
        apply List.ext_getElem (by rw [hdl]; rfl)
        intro n hn _
        match n, hn with
        | 0, _ => exact h0.1.1
        | 1, _ => exact h1.1.1
        | n + 2, hn => rw [hdl] at hn; simp at hn; omega
      subst e1; subst e2
      obtain ⟨f, g, hu, hfo, hgo, hfn, hgn, hf, hg, huf, hug⟩ := hII.fs
      have hpart : ∀ (k : Field) (off : Nat) (xs : Array Value) (v : Value), chkEl P k.type (.int .i64) = true → k.offset = off → xs[off]? = some v → (part k.type xs k.offset).run P w = .ok v w := by
        intro k off xs v hk ho hv
        obtain ⟨i, dd, _, _, _, _, hdu, hda⟩ := okEl hk
        simp [part, run_isAgg hdu, hda, Ty.isII, ho, hv]
      have heq : (Op.equal t (.agg #[.int .i64 a, .int .i64 b]) (.agg #[.int .i64 c, .int .i64 d])).run P w = .ok ((a == c) && (b == d)) w := by
        have hf' : P.fieldsOf t = #[f, g] := by simp [Program.fieldsOf, hu]
        show (Op.equalIn (9999 + 1) t _ _).run P w = _
        rw [run_equalIn_struct (P := P) w 9999 t _ _ (by rw [hf']; exact hu) hII.stood, hf']
        have hfn' : f.name ≠ "_" := by simpa using hfn
        have hgn' : g.name ≠ "_" := by simpa using hgn
        have r1 : (Op.equalIn 9999 f.type (.int .i64 a) (.int .i64 c)).run P w = .ok (a == c) w := run_equalIn_int w 9998 f.type .i64 .i64 a c huf
        have r2 : (Op.equalIn 9999 g.type (.int .i64 b) (.int .i64 d)).run P w = .ok (b == d) w := run_equalIn_int w 9998 g.type .i64 .i64 b d hug
        have p1 := hpart f 0 #[.int .i64 a, .int .i64 b] (.int .i64 a) hf hfo rfl
        have p2 := hpart g 1 #[.int .i64 a, .int .i64 b] (.int .i64 b) hg hgo rfl
        have p3 := hpart f 0 #[.int .i64 c, .int .i64 d] (.int .i64 c) hf hfo rfl
        have p4 := hpart g 1 #[.int .i64 c, .int .i64 d] (.int .i64 d) hg hgo rfl
        simp only [Op.eqFields, if_pos hfn', if_pos hgn', Sem.run_bind, p1, p3, Result.andThen_ok, r1]
        cases hac : (a == c)
        · simp
        · simp only [Bool.not_true, if_false, Bool.false_eq_true, Sem.run_bind, p2, p4, Result.andThen_ok, r2, Bool.true_and]
          cases hbd : (b == d) <;> simp
      split at he
      · cases he
        refine ⟨_, rfl, rfl, ?_⟩
        simp [eqGuard, hII.guard, binOp, heq]
      · cases he
        refine ⟨_, rfl, rfl, ?_⟩
        simp [eqGuard, hII.guard, binOp, heq]
      · cases he
    · cases he
  · cases he

theorem run_un (op : UnOp) {vx : V} {ux : Value} {e : Eff} (he : pmUn op vx some = some e) (hx : VR o ρ w B vx ux) :
    ∃ v, e = pv v ∧ v.oneCell' = true ∧ (Op.unary op ux).run P w = .ok v w := by
  unfold pmUn at he
  split at he
  · obtain ⟨rfl, _⟩ := VR_p hx
    cases he
    exact ⟨_, rfl, rfl, rfl⟩
  · obtain ⟨rfl, _⟩ := VR_p hx
    cases he
    exact ⟨_, rfl, rfl, rfl⟩
  · cases he
end
end Go.Pm

set_option linter.unusedVariables false
set_option linter.unusedSimpArgs false
namespace Go.Pm
open Go.RowKit

theorem TD.ne_other {d : TD} (h : d.cells ≠ []) : d ≠ .other := by rintro rfl; exact h rfl
theorem addr_add (b o n : Nat) : (⟨b, o, none⟩ : Addr).add n = ⟨b, o + n, none⟩ := by
  unfold Addr.add
  split
  · rename_i h; subst h; rfl
  · rfl
section
variable {P : Program} {o : Look} {ρ : Pl} {w : World} {B : Nat → Prop}
def CellsAt (o : Look) (ρ : Pl) (w : World) (B : Nat → Prop) (ls : List L) (c : Nat → Option Value) : Prop :=
  ∀ (j : Nat) (l : L), ls[j]? = some l → ∃ u, c j = some u ∧ LR1 o ρ w B l u
theorem ElR.cells : ∀ {t : Ty} {x : t.den} {c : Nat → Option Value}, ElR w B t x c → CellsAt o ρ w B (leavesOf t x) c
  | .int k, x, c, h, 0, l, hl => by cases hl; exact ⟨_, h, ⟨rfl, rfl⟩, rfl⟩
  | .int k, x, c, h, j + 1, l, hl => by simp [leavesOf] at hl
  | .bool, x, c, h, 0, l, hl => by cases hl; exact ⟨_, h, ⟨rfl, rfl⟩, rfl⟩
  | .bool, x, c, h, j + 1, l, hl => by simp [leavesOf] at hl
  | .str, x, c, h, 0, l, hl => by cases hl; exact ⟨_, h, ⟨rfl, rfl⟩, rfl⟩
  | .str, x, c, h, j + 1, l, hl => by simp [leavesOf] at hl
  | .ii, x, c, h, 0, l, hl => by cases hl; exact ⟨_, h.1, ⟨rfl, rfl⟩, rfl⟩
  | .ii, x, c, h, 1, l, hl => by cases hl; exact ⟨_, h.2, ⟨rfl, rfl⟩, rfl⟩
  | .ii, x, c, h, j + 2, l, hl => by simp [leavesOf] at hl
  | .sl t, x, c, ⟨v, hv, h⟩, 0, l, hl => by
    cases hl
    refine ⟨v, hv, h, ?_⟩
    obtain ⟨A, n, c, rfl, _⟩ := h
    rfl
  | .sl t, x, c, h, j + 1, l, hl => by simp [leavesOf] at hl
theorem run_pick {t : TypeId} {td : TD} (htd : chkTD P t td = true) {ls : List L} {f g k : Nat} {e : Eff} (he : pick td ls f some = some e)
    (hc : CellsAt o ρ w B ls fun j => w.cell? ⟨g, k + j, none⟩) : ∃ v u, e = ⟨v, [], []⟩ ∧ VR o ρ w B v u ∧ (loadVar t ⟨g, k + f, none⟩).run P w = .ok u w := by
  unfold pick at he
  split at he
  · rename_i hag
    obtain ⟨hl, he⟩ := cond_some he
    cases he
    have hl := Nat.eq_of_beq_eq_true hl
    have hne : td ≠ .other := by rintro rfl; cases hag
    obtain ⟨i, u, hi, hs, hu, ha, hone, _⟩ := okCells htd hne
    generalize hn : td.cells.length = n at hl hs ⊢
    have hex : ∀ j (hj : j < n), ∃ u, w.cell? ⟨g, k + (f + j), none⟩ = some u ∧ ∃ l, ((ls.drop f).take n)[j]? = some l ∧ LR1 o ρ w B l u := by
      intro j hj
      have hlt : j < ((ls.drop f).take n).length := by omega
      have h1 : ((ls.drop f).take n)[j]? = some (((ls.drop f).take n)[j]) := List.getElem?_eq_getElem hlt
      have h2 := h1
      rw [List.getElem?_take, if_pos hj, List.getElem?_drop] at h2
      obtain ⟨u, hu, hr⟩ := hc (f + j) _ h2
      exact ⟨u, hu, _, h1, hr⟩
    let cs : List Value := (List.range n).map fun j => (w.cell? ⟨g, k + (f + j), none⟩).getD undef
    have hcs : cs.length = n := by simp [cs]
    have hcell : ∀ j v, cs[j]? = some v → w.cell? ⟨g, k + (f + j), none⟩ = some v := by
      intro j v hv
      have hj : j < n := by
        rcases Nat.lt_or_ge j n with h | h
        · exact h
        · rw [List.getElem?_eq_none (by omega)] at hv; cases hv
      obtain ⟨u, hu, _⟩ := hex j hj
      simp only [cs, List.getElem?_map, List.getElem?_range hj, Option.map_some, hu, Option.getD_some] at hv
      rw [hu]; exact hv
    refine ⟨_, .agg cs.toArray, rfl, ⟨_, rfl, by simp [hcs, hl], fun j x c hx hcj => ?_⟩, ?_⟩
    · simp only [List.toList_toArray] at hcj
      have hj : j < n := by
        rcases Nat.lt_or_ge j n with h | h
        · exact h
        · rw [List.getElem?_eq_none (by omega)] at hcj; cases hcj
      obtain ⟨u, hu, l, hl', hr⟩ := hex j hj
      rw [hl'] at hx
      cases hx
      have := hcell j c hcj
      rw [hu] at this
      cases this
      exact hr
    · have hld := run_loadCells_list (P := P) w ⟨g, k + f, none⟩ cs (fun j v hv => by rw [addr_add, Nat.add_assoc]; exact hcell j v hv)
      rw [hcs] at hld
      simp only [loadVar, Sem.run_bind, run_isAgg hu, ha, hag, Result.andThen_ok, if_true, run_sizeOf hi, hs, hld]
      rfl
  · rename_i hag
    split at he
    · rename_i z x r hcl hdr
      cases he
      have hne : td ≠ .other := TD.ne_other (by rw [hcl]; simp)
      obtain ⟨i, u, hi, hs, hu, ha, hone, _⟩ := okCells htd hne
      have hx : ls[f]? = some x := by
        have : (ls.drop f)[0]? = some x := by rw [hdr]; rfl
        rw [List.getElem?_drop] at this
        simpa using this
      obtain ⟨v, hv, hr⟩ := hc f x hx
      refine ⟨_, v, rfl, hr.1, ?_⟩
      simp only [loadVar, Sem.run_bind, run_isAgg hu, ha, hag, Result.andThen_ok, Bool.false_eq_true, if_false, run_load, hv]
    · cases he
end

section
variable {P : Program} {X : Nat → Prop} {w0 : World} {ρ0 : P0} {mn : List Nat} {nt : Nat} {s : St} {ρ : Pl} {a : Act} {w : World}
/-- the cells that a pointer into an object reaches -/
theorem ptr_cells (h : Inv X w0 ρ0 mn nt s ρ a w) {id : Nat} {x : Obj} {i : Int} {f : Nat} {u : Value} (hid : getO s.o id = some (some x)) (hp : PtR (ρ id) x i f u) :
    ∃ g k c, ρ id = some (g, c) ∧ u = .pointer (some ⟨g, k + f, none⟩) ∧ CellsAt (getO s.o) ρ w (BO X (getO s.o) ρ) (objLeaves x i) (fun j => w.cell? ⟨g, k + j, none⟩) := by
  have ho := h.rel.ob id x hid
  cases x with
  | row e t xs =>
    obtain ⟨h0, h1, g, c, hg, rfl⟩ := hp
    simp only [OR, hg] at ho
    obtain ⟨cur, hh, _, _, _, h4⟩ := ho
    refine ⟨g, i.toNat * t.sz, c, hg, rfl, ?_⟩
    have hi : i.toNat < xs.length := by omega
    have := h4 i.toNat hi
    simp only [objLeaves]
    have e1 : atD t.dflt xs i = xs[i.toNat] := by simp [atD, List.getD_eq_getElem?_getD, List.getElem?_eq_getElem hi]
    rw [e1]
    exact this.cells
  | box e ls =>
    obtain ⟨rfl, g, c, hg, rfl⟩ := hp
    obtain ⟨g', c', cur, hg', hh, ha⟩ := ho
    rw [hg] at hg'
    cases hg'
    refine ⟨g, 0, c, hg, by rw [Nat.zero_add], fun j l hl => ?_⟩
    simp only [objLeaves] at hl
    have hj : j < ls.length := by
      rcases Nat.lt_or_ge j ls.length with h | h
      · exact h
      · rw [List.getElem?_eq_none h] at hl; cases hl
    have hjc : j < cur.toList.length := by rw [ha.1]; exact hj
    refine ⟨cur.toList[j], ?_, ha.2 j l _ hl (List.getElem?_eq_getElem hjc)⟩
    simp only [Array.length_toList] at hjc
    simp [World.cell?, hh, hjc]
theorem run_ld (h : Inv X w0 ρ0 mn nt s ρ a w) {t : TypeId} {td : TD} (htd : chkTD P t td = true) {v : V} {u : Value} {e : Eff}
    (he : pmLoad td (getO s.o) v some = some e) (hv : VR (getO s.o) ρ w (BO X (getO s.o) ρ) v u) :
    ∃ v' u', e = ⟨v', [], []⟩ ∧ VR (getO s.o) ρ w (BO X (getO s.o) ρ) v' u' ∧ (Instr.loadAt t u).run P w = .ok u' w := by
  unfold pmLoad at he
  split at he
  · rename_i id i f
    split at he
    · rename_i x hid
      simp only [VR, LR, hid] at hv
      obtain ⟨g, k, c, _, rfl, hc⟩ := ptr_cells h hid hv
      obtain ⟨v', u', h1, h2, h3⟩ := run_pick (P := P) htd he hc
      exact ⟨v', u', h1, h2, by simpa [Instr.loadAt, Instr.sureAddr] using h3⟩
    · cases he
  · rename_i t' x f
    obtain ⟨b, k, rfl, hb, hB, hE⟩ := hv
    obtain ⟨v', u', h1, h2, h3⟩ := run_pick (P := P) htd he (hE.cells (o := getO s.o) (ρ := ρ))
    exact ⟨v', u', h1, h2, by simpa [Instr.loadAt, Instr.sureAddr] using h3⟩
  · cases he
end

section
variable {P : Program} {o : Look} {ρ : Pl} {w : World} {B : Nat → Prop}
/-- the address of a field -/
theorem run_fieldAt {t : TypeId} {td : TD} (htd : chkTD P t td = true) {k f n : Nat} (hk : td.offs[k]? = some (f, n)) (b c : Nat) :
    (Instr.fieldAt t (.pointer (some ⟨b, c, none⟩)) k).run P w = .ok (.pointer (some ⟨b, c + f, none⟩)) w := by
  have hag : td.isAgg = true := by cases td <;> first | rfl | simp [TD.offs] at hk
  obtain ⟨fs, i, hu, _, _, hx⟩ := okOffs htd hag
  obtain ⟨fl, j, hf, ho, hj, hs, hne⟩ := hx k f n hk
  have hs0 : ¬ j.size = 0 := by rw [hs]; exact hne
  simp only [Instr.fieldAt, Sem.run_bind, run_underlying hu, Result.andThen_ok, hf, Instr.sureAddr, Sem.run_pure, fieldPlace, run_sizeOf hj, Sem.run_ite, if_neg hs0, ho, addr_add]
/-- the address of an element -/
theorem run_indexAt {t e : TypeId} {i0 : TypeInfo} {sz : Nat} (hu : P.underlying t = some (.slice e)) (hi : P.info? e = some i0) (hs : i0.size = sz) (b c n cp : Nat) (k : IntKind) (i : Int) (h0 : 0 ≤ i) (h1 : i < n) :
    (Instr.indexAt t (.slice (some ⟨b, c, none⟩) n cp) (.int k i)).run P w = .ok (.pointer (some ⟨b, c + i.toNat * sz, none⟩)) w := by
  simp only [Instr.indexAt, asIntOf, Sem.run_bind, Sem.run_pure, Result.andThen_ok, run_underlying hu, h0, h1, and_self, if_true, run_sizeOf hi, hs, addr_add]
end
section
variable {P : Program} {X : Nat → Prop} {w0 : World} {ρ0 : P0} {mn : List Nat} {nt : Nat} {s : St} {ρ : Pl} {a : Act} {w : World}
theorem run_ixa (h : Inv X w0 ρ0 mn nt s ρ a w) {t e : TypeId} {τ : Ty} (htd : chkTD P t (.slice e τ) = true) {vx vi : V} {ux ui : Value} {ef : Eff}
    (he : pmIndexAddr τ (getO s.o) vx vi some = some ef) (hx : VR (getO s.o) ρ w (BO X (getO s.o) ρ) vx ux) (hi : VR (getO s.o) ρ w (BO X (getO s.o) ρ) vi ui) :
    ∃ v' u', ef = ⟨v', [], []⟩ ∧ VR (getO s.o) ρ w (BO X (getO s.o) ρ) v' u' ∧ (Instr.indexAt t ux ui).run P w = .ok u' w := by
  obtain ⟨hu, hel, _⟩ := okSlice htd
  obtain ⟨i0, d, hi0, hz, hs, hby, hdu, hda⟩ := okEl hel
  unfold pmIndexAddr at he
  split at he
  · rename_i k i
    obtain ⟨rfl, _⟩ := VR_p hi
    split at he
    · rename_i t' xs cl
      obtain ⟨rfl, he⟩ := by simpa using cond_some he
      obtain ⟨⟨h0, h1⟩, he⟩ := chk_some he
      cases he
      obtain ⟨A, n, c, rfl, hn, hcl, hc, hp⟩ := hx
      obtain ⟨b, off, rfl, hb, hB, hE⟩ := hp (by omega)
      refine ⟨_, _, rfl, ?_, run_indexAt hu hi0 hs b off n c k i h0 (by omega)⟩
      have hlt : i.toNat < xs.length := by omega
      refine ⟨b, off + i.toNat * τ.sz, by rw [Nat.add_zero], hb, hB, ?_⟩
      have e1 : atD τ.dflt xs i = xs[i.toNat] := by simp [atD, List.getD_eq_getElem?_getD, List.getElem?_eq_getElem hlt]
      rw [e1]
      exact hE _ hlt
    · rename_i id wn
      split at he
      · rename_i e' t' xs hid
        obtain ⟨rfl, he⟩ := by simpa using cond_some he
        simp only [VR, LR, hid] at hx
        have ho := h.rel.ob id _ hid
        simp only [OR] at ho
        split at he
        · obtain ⟨⟨h0, h1⟩, he⟩ := chk_some he
          cases he
          simp only [RwR] at hx
          cases hg : ρ id with
          | none => rw [hg] at hx; obtain ⟨_, hx⟩ := hx; omega
          | some p =>
            obtain ⟨g, c⟩ := p
            rw [hg] at hx
            obtain ⟨rfl, hc⟩ := hx
            refine ⟨_, _, rfl, ?_, run_indexAt hu hi0 hs g 0 xs.length c k i h0 h1⟩
            simp only [VR, LR, hid]
            exact ⟨h0, h1, g, c, hg, by simp⟩
        · rename_i q
          obtain ⟨⟨h0, h1⟩, he⟩ := chk_some he
          cases he
          simp only [RwR] at hx
          obtain ⟨ha, hm, hl, A, c, rfl, hc, hA⟩ := hx
          obtain ⟨g, c', hg, rfl⟩ := hA.1 (by omega)
          refine ⟨_, _, rfl, ?_, run_indexAt hu hi0 hs g _ _ c k i h0 (by omega)⟩
          simp only [VR, LR, hid]
          refine ⟨by omega, by omega, g, c', hg, ?_⟩
          rw [Int.toNat_add ha h0, Nat.add_mul]
          simp
      · cases he
    · cases he
  · cases he
end
end Go.Pm

set_option linter.unusedVariables false
set_option linter.unusedSimpArgs false
namespace Go.Pm
open Go.RowKit

/-- an optional bound, in the state and in the model -/
def OI (u : Option Value) (d n : Int) : Prop := (u = none ∧ n = d) ∨ ∃ k, u = some (.int k n)
section
variable {P : Program} {o : Look} {ρ : Pl} {w : World} {B : Nat → Prop}
theorem optInt_inv {v : Option V} {u : Option Value} (h : ∀ x, v = some x → ∃ y, u = some y ∧ VR o ρ w B x y) (hn : v = none → u = none) {d : Int} {K : Int → Option Eff} {e : Eff}
    (he : optInt v d K = some e) : ∃ n, K n = some e ∧ OI u d n := by
  cases v with
  | none => exact ⟨d, he, .inl ⟨hn rfl, rfl⟩⟩
  | some x =>
    obtain ⟨y, rfl, hr⟩ := h x rfl
    simp only [optInt, asInt] at he
    split at he
    · rename_i k n
      obtain ⟨rfl, _⟩ := VR_p hr
      exact ⟨n, he, .inr ⟨k, rfl⟩⟩
    · cases he
theorem run_sliceBound (k : IntKind) (n : Int) (y : Nat) (c : BoundsCode) (h0 : 0 ≤ n) (h1 : n ≤ y) : (Instr.sliceBound (.int k n) y c).run P w = .ok n.toNat w := by
  simp [Instr.sliceBound, asIntOf, h0, h1]
theorem run_sliceBounds {lo hi : Option Value} {len cap : Nat} {l h : Int} (isS : Bool) (hh : OI hi len h) (hl : OI lo 0 l) (h0 : 0 ≤ l) (h1 : l ≤ h) (h2 : h ≤ cap) :
    (Instr.sliceBounds isS len cap lo hi none).run P w = .ok (l.toNat, h.toNat, cap) w := by
  rcases hh with ⟨rfl, rfl⟩ | ⟨k, rfl⟩ <;> rcases hl with ⟨rfl, rfl⟩ | ⟨k', rfl⟩
  · simp [Instr.sliceBounds]
  · simp [Instr.sliceBounds, run_sliceBound k' l _ _ h0 h1]
  · simp [Instr.sliceBounds, run_sliceBound k h _ _ (by omega) h2]
  · simp only [Instr.sliceBounds, Sem.run_bind, Sem.run_pure, Result.andThen_ok, run_sliceBound k h _ _ (by omega) h2]
    rw [run_sliceBound k' l _ _ h0 (by omega)]
    rfl
theorem run_sliceBounds3 {lo hi mx : Option Value} {len cap : Nat} {l h m : Int} {d : Int} (hh : ∃ k, hi = some (.int k h)) (hl : OI lo 0 l) (hm : ∃ k, mx = some (.int k m)) (h0 : 0 ≤ l) (h1 : l ≤ h) (h2 : h ≤ m) (h3 : m ≤ cap) :
    (Instr.sliceBounds true len cap lo hi mx).run P w = .ok (l.toNat, h.toNat, m.toNat) w := by
  obtain ⟨k, rfl⟩ := hh
  obtain ⟨k'', rfl⟩ := hm
  rcases hl with ⟨rfl, rfl⟩ | ⟨k', rfl⟩
  · simp only [Instr.sliceBounds, Sem.run_bind, Sem.run_pure, Result.andThen_ok, run_sliceBound k'' m _ _ (by omega) h3]
    rw [run_sliceBound k h _ _ (by omega) (by omega)]
    rfl
  · simp only [Instr.sliceBounds, Sem.run_bind, Sem.run_pure, Result.andThen_ok, run_sliceBound k'' m _ _ (by omega) h3]
    rw [run_sliceBound k h _ _ (by omega) (by omega)]
    simp only [Result.andThen_ok]
    rw [run_sliceBound k' l _ _ h0 (by omega)]
    rfl
theorem SlR.sub {α : Type} {E : α → (Nat → Option Value) → Prop} {sz : Nat} {xs : List α} {A : Option Addr} {n c : Nat} (h : SlR E sz w B xs false (.slice A n c)) (l r : Int) (m : Nat) (cl : Bool) (h0 : 0 ≤ l) (h1 : l ≤ r) (h2 : r ≤ n) (h3 : r ≤ m)
    (hcl : cl = true → (m : Int) = r) : SlR E sz w B (Pm.sub xs l r) cl (.slice (if m = l.toNat then A else A.map (·.add (l.toNat * sz))) (r.toNat - l.toNat) (m - l.toNat)) := by
  have k1 : cl = true → m - l.toNat = r.toNat - l.toNat := fun h => by have e := hcl h; omega
  obtain ⟨A', n', c', e, hn, _, hc, hp⟩ := h
  cases e
  refine ⟨_, _, _, rfl, by simp [Pm.sub]; omega, k1, by omega, fun hpos => ?_⟩
  obtain ⟨b, off, rfl, hb, hB, hE⟩ := hp (by omega)
  have hne : ¬ m = l.toNat := by clear hcl k1 hp hE; omega
  refine ⟨b, off + l.toNat * sz, by rw [if_neg hne]; simp [addr_add], hb, hB, fun i hi => ?_⟩
  have hi' : l.toNat + i < xs.length := by simp [Pm.sub] at hi; omega
  have e1 : (Pm.sub xs l r)[i] = xs[l.toNat + i] := by simp [Pm.sub]
  rw [e1]
  have := hE (l.toNat + i) hi'
  rw [show (fun j => w.cell? ⟨b, off + l.toNat * sz + i * sz + j, none⟩) = (fun j => w.cell? ⟨b, off + (l.toNat + i) * sz + j, none⟩) from funext fun j => by rw [Nat.add_mul, Nat.add_assoc off]]
  exact this
theorem SlR.unclip {α : Type} {E : α → (Nat → Option Value) → Prop} {sz : Nat} {xs : List α} {cl : Bool} {v : Value} (h : SlR E sz w B xs cl v) : SlR E sz w B xs false v := by
  obtain ⟨A, n, c, rfl, hn, _, hc, hp⟩ := h
  exact ⟨A, n, c, rfl, hn, by simp, hc, hp⟩
end
section
variable {P : Program} {X : Nat → Prop} {w0 : World} {ρ0 : P0} {mn : List Nat} {nt : Nat} {s : St} {ρ : Pl} {a : Act} {w : World}
theorem map_rel (h : Inv X w0 ρ0 mn nt s ρ a w) (x : Option Operand) : (∀ v, x.map s.ev = some v → ∃ y, x.map a.eval = some y ∧ VR (getO s.o) ρ w (BO X (getO s.o) ρ) v y) ∧ (x.map s.ev = none → x.map a.eval = none) := by
  cases x with
  | none => exact ⟨fun v hv => by simp at hv, fun _ => rfl⟩
  | some x => exact ⟨fun v hv => by simp at hv; subst hv; exact ⟨_, rfl, h.ev x⟩, fun hv => by simp at hv⟩
theorem run_sl (h : Inv X w0 ρ0 mn nt s ρ a w) {t : TypeId} {td : TD} (htd : chkTD P t td = true) {vx : V} {ux : Value} {lo hi mx : Option Operand} {e : Eff}
    (he : pmSlice td (getO s.o) vx (lo.map s.ev) (hi.map s.ev) (mx.map s.ev) some = some e) (hx : VR (getO s.o) ρ w (BO X (getO s.o) ρ) vx ux) :
    ∃ v' u', e = ⟨v', [], []⟩ ∧ VR (getO s.o) ρ w (BO X (getO s.o) ρ) v' u' ∧ (Instr.sliceAt t ux (lo.map a.eval) (hi.map a.eval) (mx.map a.eval)).run P w = .ok u' w := by
  have hlo := map_rel h lo
  have hhi := map_rel h hi
  have hmx := map_rel h mx
  unfold pmSlice at he
  split at he
  · rename_i b
    obtain ⟨rfl, _⟩ := VR_p hx
    split at he
    · rename_i z heq
      obtain ⟨r, he, hr⟩ := optInt_inv hhi.1 hhi.2 he
      obtain ⟨l, he, hl⟩ := optInt_inv hlo.1 hlo.2 he
      obtain ⟨⟨h0, h1, h2⟩, he⟩ := chk_some he
      cases he
      refine ⟨_, .string (subS b l r), rfl, ⟨rfl, rfl⟩, ?_⟩
      obtain ⟨i, d, _, _, _, hu, _, hk⟩ := (okOne htd).ex
      have hb : P.underlying t = some .string := by
        rw [hu]
        cases d <;> simp [kindOk] at hk ⊢
      have hm : mx.map a.eval = none := hmx.2 heq
      rw [hm]
      simp only [Instr.sliceAt, Sem.run_bind, run_underlying hb, Result.andThen_ok, Instr.slice, run_sliceBounds false hr hl h0 h1 h2, Option.isSome_none, Bool.false_eq_true, if_false, Sem.run_pure]
      rfl
    · cases he
  · rename_i t' xs cl
    split at he
    · rename_i e0 τ
      obtain ⟨ht, he⟩ := cond_some he
      obtain rfl := of_decide_eq_true ht
      obtain ⟨hu, hel, _⟩ := okSlice htd
      obtain ⟨i0, d, hi0, hz, hs, hby, hdu, hda⟩ := okEl hel
      obtain ⟨A, n, c, rfl, hn, hcl, hc, hp⟩ := hx
      have hx' : SlR (ElR w (BO X (getO s.o) ρ) τ) τ.sz w (BO X (getO s.o) ρ) xs false (.slice A n c) := ⟨A, n, c, rfl, hn, by simp, hc, hp⟩
      split at he
      · rename_i heq
        obtain ⟨r, he, hr⟩ := optInt_inv hhi.1 hhi.2 he
        obtain ⟨l, he, hl⟩ := optInt_inv hlo.1 hlo.2 he
        obtain ⟨⟨h0, h1, h2⟩, he⟩ := chk_some he
        cases he
        rw [hn] at hr
        refine ⟨_, _, rfl, hx'.sub l r c false h0 h1 (by omega) (by omega) (by simp), ?_⟩
        rw [hmx.2 heq]
        simp only [Instr.sliceAt, Sem.run_bind, run_underlying hu, Result.andThen_ok, Instr.slice, run_sliceBounds true hr hl h0 h1 (by omega : r ≤ (c : Int)), run_sizeOf hi0, hs, Sem.run_pure]
      · rename_i m heq
        obtain ⟨um, hum, hmr⟩ := hmx.1 _ heq
        obtain ⟨l, he, hl⟩ := optInt_inv hlo.1 hlo.2 he
        unfold asInt at he
        split at he
        · rename_i k n'
          obtain ⟨rfl, _⟩ := VR_p hmr
          split at he
          · rename_i k' r hhv
            have hr : ∃ kk, hi.map a.eval = some (.int kk r) := by
              cases hi with
              | none => simp at hhv
              | some y =>
                simp only [Option.map_some, Option.getD_some] at hhv
                have := h.ev y
                rw [hhv] at this
                obtain ⟨e1, _⟩ := VR_p this
                exact ⟨k', by simp [e1]⟩
            obtain ⟨⟨h0, h1, hrm, h2⟩, he⟩ := chk_some he
            cases he
            subst hrm
            refine ⟨_, _, rfl, hx'.sub l r r.toNat true h0 h1 (by omega) (by omega) (fun _ => by omega), ?_⟩
            rw [hum]
            simp only [Instr.sliceAt, Sem.run_bind, run_underlying hu, Result.andThen_ok, Instr.slice, run_sliceBounds3 (d := 0) hr hl ⟨_, rfl⟩ h0 h1 (Int.le_refl _) (by omega : r ≤ (c : Int)), run_sizeOf hi0, hs, Sem.run_pure]
          · cases he
        · cases he
    · cases he
  · rename_i id win
    split at he
    · rename_i e0 τ e' t' xs hid
      obtain ⟨ht, he⟩ := cond_some he
      obtain rfl := of_decide_eq_true ht
      obtain ⟨hu, hel, _⟩ := okSlice htd
      obtain ⟨i0, d, hi0, hz, hs, hby, hdu, hda⟩ := okEl hel
      simp only [VR, LR, hid] at hx
      split at he
      · rename_i heq
        have hm := hmx.2 heq
        split at he
        · obtain ⟨r, he, hr⟩ := optInt_inv hhi.1 hhi.2 he
          obtain ⟨l, he, hl⟩ := optInt_inv hlo.1 hlo.2 he
          obtain ⟨⟨h0, h1, h2⟩, he⟩ := chk_some he
          cases he
          simp only [RwR] at hx
          cases hg : ρ id with
          | none =>
            rw [hg] at hx
            obtain ⟨rfl, hx⟩ := hx
            rw [hx] at hr h2
            have hz0 : r.toNat - l.toNat = (r - l).toNat := by omega
            refine ⟨_, .slice none (r - l).toNat (0 - l.toNat), rfl, ?_, ?_⟩
            · simp only [VR, LR, hid, RwR, hg]
              exact ⟨h0, by omega, by omega, _, _, rfl, by omega, fun hp => by omega, fun _ => ⟨rfl, by omega⟩⟩
            · rw [hm]
              simp only [Instr.sliceAt, Sem.run_bind, run_underlying hu, Result.andThen_ok, Instr.slice, run_sliceBounds true hr hl h0 h1 (by omega : r ≤ ((0 : Nat) : Int)), run_sizeOf hi0, hs, Sem.run_pure, hz0]
              simp
          | some p =>
            obtain ⟨g, c⟩ := p
            rw [hg] at hx
            obtain ⟨rfl, hc⟩ := hx
            have hz0 : r.toNat - l.toNat = (r - l).toNat := by omega
            refine ⟨_, .slice (if c = l.toNat then some ⟨g, 0, none⟩ else some ⟨g, l.toNat * τ.sz, none⟩) (r - l).toNat (c - l.toNat), rfl, ?_, ?_⟩
            · simp only [VR, LR, hid, RwR, hg]
              refine ⟨h0, by omega, by omega, _, _, rfl, by omega, fun hp => ⟨g, c, rfl, ?_⟩, fun hl0 => ⟨?_, ?_⟩⟩
              · have hne : ¬ c = l.toNat := by omega
                rw [if_neg hne]
              · subst hl0
                split <;> simp
              · subst hl0
                simp
            · rw [hm]
              simp only [Instr.sliceAt, Sem.run_bind, run_underlying hu, Result.andThen_ok, Instr.slice, run_sliceBounds true hr hl h0 h1 (by omega : r ≤ (c : Int)), run_sizeOf hi0, hs, Sem.run_pure, hz0, Option.map_some, addr_add, Nat.zero_add]
        · rename_i a0 n0 he0
          obtain ⟨r, he, hr⟩ := optInt_inv hhi.1 hhi.2 he
          obtain ⟨l, he, hl⟩ := optInt_inv hlo.1 hlo.2 he
          obtain ⟨⟨h0, h1, h2⟩, he⟩ := chk_some he
          cases he
          simp only [RwR] at hx
          obtain ⟨ha0, hn0, hle, A, c, rfl, hc, hA⟩ := hx
          have hz0 : r.toNat - l.toNat = (r - l).toNat := by omega
          have hr' : OI (hi.map a.eval) (n0.toNat : Int) r := by rw [Int.toNat_of_nonneg hn0]; exact hr
          refine ⟨_, .slice (if c = l.toNat then A else A.map (·.add (l.toNat * τ.sz))) (r - l).toNat (c - l.toNat), rfl, ?_, ?_⟩
          · simp only [VR, LR, hid, RwR]
            refine ⟨by omega, by omega, by omega, _, _, rfl, by omega, fun hp => ?_, fun hl0 => ?_⟩
            · obtain ⟨g, c', hg, rfl⟩ := hA.1 (by omega)
              refine ⟨g, c', hg, ?_⟩
              have hne : ¬ c = l.toNat := by omega
              rw [if_neg hne, Int.toNat_add ha0 h0, Nat.add_mul]
              simp [addr_add]
            · have ea : a0 = 0 := by omega
              have el : l = 0 := by omega
              subst ea; subst el
              have := hA.2 rfl
              split at this
              · obtain ⟨rfl, rfl⟩ := this
                exact ⟨by split <;> rfl, by simp⟩
              · obtain ⟨rfl, rfl⟩ := this
                exact ⟨by split <;> simp [addr_add], by simp⟩
          · rw [hm]
            simp only [Instr.sliceAt, Sem.run_bind, run_underlying hu, Result.andThen_ok, Instr.slice, run_sliceBounds true hr' hl h0 h1 (by omega : r ≤ (c : Int)), run_sizeOf hi0, hs, Sem.run_pure, hz0]
      · cases he
    · cases he
  · cases he

theorem run_len (h : Inv X w0 ρ0 mn nt s ρ a w) {t ty : TypeId} {td : TD} (htd : chkTD P t td = true) {vx : V} {ux : Value} {e : Eff}
    (he : pmLen td (getO s.o) vx some = some e) (hx : VR (getO s.o) ρ w (BO X (getO s.o) ρ) vx ux) :
    ∃ v, e = pv v ∧ v.oneCell' = true ∧ (Builtin.len_ #[t] ty #[ux]).run P w = .ok v w := by
  unfold pmLen at he
  split at he
  · cases he
  rename_i n hn
  have key : ∀ e0 τ, td = .slice e0 τ → ∀ A m c, ux = .slice A m c → (m : Int) = n → (Builtin.len_ #[t] ty #[ux]).run P w = .ok (.int .i64 n) w := by
    rintro e0 τ rfl A m c rfl rfl
    obtain ⟨hu, _⟩ := okSlice htd
    simp [Builtin.len_, run_underlying hu, goInt]
  split at he
  · rename_i z b
    obtain ⟨rfl, _⟩ := VR_p hx
    cases he
    simp only [lenOf] at hn
    cases hn
    obtain ⟨i, d, _, _, _, hu, _, hk⟩ := (okOne htd).ex
    have hb : P.underlying t = some .string := by
      rw [hu]
      cases d <;> simp [kindOk] at hk ⊢
    exact ⟨_, rfl, rfl, by simp [Builtin.len_, run_underlying hb, goInt]⟩
  · rename_i e0 τ
    cases he
    simp only [lenOf] at hn
    cases hn
    exact ⟨_, rfl, rfl, key e0 τ rfl none 0 0 hx rfl⟩
  · rename_i e0 τ t' xs cl
    cases he
    simp only [lenOf] at hn
    cases hn
    obtain ⟨A, m, c, hu, hm, _⟩ := hx
    exact ⟨_, rfl, rfl, key e0 τ rfl A m c hu (by rw [hm])⟩
  · rename_i e0 τ id win
    cases he
    simp only [lenOf] at hn
    simp only [VR, LR] at hx
    split at hn
    · rename_i e' t' xs hid
      rw [hid] at hx
      simp only at hx
      split at hn
      · rename_i a0 n0
        cases hn
        simp only [RwR] at hx
        obtain ⟨_, h0, _, A, c, rfl, _⟩ := hx
        exact ⟨_, rfl, rfl, key e0 τ rfl A _ c rfl (Int.toNat_of_nonneg h0)⟩
      · cases hn
        simp only [RwR] at hx
        refine ⟨_, rfl, rfl, ?_⟩
        split at hx
        · obtain ⟨rfl, h0⟩ := hx
          exact key e0 τ rfl none 0 0 rfl (by rw [h0])
        · obtain ⟨rfl, _⟩ := hx
          exact key e0 τ rfl _ _ _ rfl rfl
    · cases hn
  · cases he
end
end Go.Pm

set_option linter.unusedVariables false
set_option linter.unusedSimpArgs false
namespace Go.Pm
open Go.RowKit

theorem ElR.congr {w : World} {B : Nat → Prop} : ∀ {t : Ty} {x : t.den} {c c' : Nat → Option Value}, (∀ j, j < t.sz → c' j = c j) → ElR w B t x c → ElR w B t x c'
  | .int _, _, _, _, h, hx => (h 0 (by simp [Ty.sz])).trans hx
  | .bool, _, _, _, h, hx => (h 0 (by simp [Ty.sz])).trans hx
  | .str, _, _, _, h, hx => (h 0 (by simp [Ty.sz])).trans hx
  | .ii, _, _, _, h, hx => ⟨(h 0 (by simp [Ty.sz])).trans hx.1, (h 1 (by simp [Ty.sz])).trans hx.2⟩
  | .sl t, _, _, _, h, ⟨v, hv, hx⟩ => ⟨v, (h 0 (show 0 < Ty.sz (.sl t) by simp [Ty.sz])).trans hv, hx⟩
theorem ElR.some {w : World} {B : Nat → Prop} : ∀ {t : Ty} {x : t.den} {c : Nat → Option Value}, ElR w B t x c → ∀ j, j < t.sz → ∃ u, c j = some u ∧ u.oneCell' = true
  | .int _, _, _, h, 0, _ => ⟨_, h, rfl⟩
  | .bool, _, _, h, 0, _ => ⟨_, h, rfl⟩
  | .str, _, _, h, 0, _ => ⟨_, h, rfl⟩
  | .ii, _, _, h, 0, _ => ⟨_, h.1, rfl⟩
  | .ii, _, _, h, 1, _ => ⟨_, h.2, rfl⟩
  | .sl t, _, _, ⟨v, hv, A, n, c, he, _⟩, 0, _ => ⟨v, hv, by rw [he]; rfl⟩
  | .int _, _, _, _, j + 1, h => by simp [Ty.sz] at h
  | .bool, _, _, _, j + 1, h => by simp [Ty.sz] at h
  | .str, _, _, _, j + 1, h => by simp [Ty.sz] at h
  | .ii, _, _, _, j + 2, h => by simp [Ty.sz] at h; omega
  | .sl _, _, _, _, j + 1, h => by simp [Ty.sz] at h
theorem Ty.sz_pos (t : Ty) : 0 < t.sz := by cases t <;> simp [Ty.sz]
theorem ix_lt {i n sz j : Nat} (hi : i < n) (hj : j < sz) : i * sz + j < n * sz := by
  calc i * sz + j < i * sz + sz := by omega
    _ = (i + 1) * sz := by rw [Nat.succ_mul]
    _ ≤ n * sz := Nat.mul_le_mul_right _ hi
/-- a list of elements and its cells, one after the other -/
def FlatR (w : World) (B : Nat → Prop) (t : Ty) (xs : List t.den) (cs : List Value) : Prop :=
  cs.length = xs.length * t.sz ∧ (∀ v ∈ cs, v.oneCell' = true) ∧ ∀ i (h : i < xs.length), ElR w B t xs[i] (fun j => cs[i * t.sz + j]?)
theorem flat_of {w : World} {B : Nat → Prop} {t : Ty} {xs : List t.den} {f : Nat → Option Value} (h : ∀ i (h : i < xs.length), ElR w B t xs[i] (fun j => f (i * t.sz + j))) :
    ∃ cs, FlatR w B t xs cs ∧ ∀ j v, cs[j]? = some v → f j = some v := by
  have hall : ∀ j, j < xs.length * t.sz → ∃ u, f j = some u ∧ u.oneCell' = true := by
    intro j hj
    have hp := t.sz_pos
    have hi : j / t.sz < xs.length := Nat.div_lt_of_lt_mul (by rw [Nat.mul_comm]; exact hj)
    obtain ⟨u, hu, h1⟩ := (h (j / t.sz) hi).some (j % t.sz) (Nat.mod_lt _ hp)
    refine ⟨u, ?_, h1⟩
    have : j / t.sz * t.sz + j % t.sz = j := by rw [Nat.mul_comm]; exact Nat.div_add_mod j t.sz
    rw [this] at hu
    exact hu
  let cs : List Value := (List.range (xs.length * t.sz)).map fun j => (f j).getD undef
  have hl : cs.length = xs.length * t.sz := by simp [cs]
  have hg : ∀ j, j < xs.length * t.sz → cs[j]? = f j := by
    intro j hj
    obtain ⟨u, hu, _⟩ := hall j hj
    simp [cs, List.getElem?_range hj, hu]
  refine ⟨cs, ⟨hl, ?_, fun i hi => (h i hi).congr fun j hj => hg _ (ix_lt hi hj)⟩, ?_⟩
  · intro v hv
    obtain ⟨j, hj⟩ := List.getElem?_of_mem hv
    have hlt : j < xs.length * t.sz := by
      rcases Nat.lt_or_ge j (xs.length * t.sz) with h | h
      · exact h
      · rw [List.getElem?_eq_none (by omega)] at hj; cases hj
    rw [hg j hlt] at hj
    obtain ⟨u, hu, h1⟩ := hall j hlt
    rw [hu] at hj
    cases hj
    exact h1
  · intro j v hj
    have hlt : j < xs.length * t.sz := by
      rcases Nat.lt_or_ge j (xs.length * t.sz) with h | h
      · exact h
      · rw [List.getElem?_eq_none (by omega)] at hj; cases hj
    rw [← hg j hlt]; exact hj
theorem FlatR.append {w : World} {B : Nat → Prop} {t : Ty} {xs ys : List t.den} {cs ds : List Value} (h : FlatR w B t xs cs) (k : FlatR w B t ys ds) : FlatR w B t (xs ++ ys) (cs ++ ds) := by
  obtain ⟨h1, h2, h3⟩ := h
  obtain ⟨k1, k2, k3⟩ := k
  refine ⟨by rw [List.length_append, List.length_append, h1, k1, Nat.add_mul], ?_, ?_⟩
  · intro v hv
    rcases List.mem_append.1 hv with hv | hv
    · exact h2 v hv
    · exact k2 v hv
  · intro i hi
    by_cases hlt : i < xs.length
    · rw [List.getElem_append_left hlt]
      refine (h3 i hlt).congr fun j hj => ?_
      rw [List.getElem?_append_left (by rw [h1]; exact ix_lt hlt hj)]
    · have hge : xs.length ≤ i := by omega
      rw [List.getElem_append_right hge]
      have hi' : i - xs.length < ys.length := by simp at hi; omega
      refine (k3 _ hi').congr fun j hj => ?_
      have e : i * t.sz + j = cs.length + ((i - xs.length) * t.sz + j) := by
        rw [h1]
        have : i = xs.length + (i - xs.length) := by omega
        conv => lhs; rw [this, Nat.add_mul]
        omega
      rw [e, List.getElem?_append_right (by omega)]
      congr 1
      omega
theorem flat_nil (w : World) (B : Nat → Prop) (t : Ty) : FlatR w B t [] [] := ⟨by simp, by simp, fun i h => by simp at h⟩
theorem FlatR.keep {w w' : World} {B B' : Nat → Prop} (hk : Keep w B w' B') {t : Ty} {xs : List t.den} {cs : List Value} (h : FlatR w B t xs cs) : FlatR w' B' t xs cs :=
  ⟨h.1, h.2.1, fun i hi => (h.2.2 i hi).keep hk⟩
/-- a slice that reads as a list: its cells -/
theorem SlR.flat {w : World} {B : Nat → Prop} {t : Ty} {xs : List t.den} {cl : Bool} {A : Option Addr} {n c : Nat} (h : SlR (ElR w B t) t.sz w B xs cl (.slice A n c)) :
    xs.length = n ∧ ∃ cs, FlatR w B t xs cs ∧ (0 < n → ∃ b o, A = some ⟨b, o, none⟩ ∧ ∀ j v, cs[j]? = some v → w.cell? ⟨b, o + j, none⟩ = some v) := by
  obtain ⟨A', n', c', e, hn, _, hc, hp⟩ := h
  cases e
  refine ⟨hn, ?_⟩
  by_cases h0 : 0 < n
  · obtain ⟨b, o, rfl, hb, hB, hE⟩ := hp h0
    obtain ⟨cs, hf, hcs⟩ := flat_of (f := fun j => w.cell? ⟨b, o + j, none⟩) (fun i hi => by
      have := hE i hi
      rw [show (fun j => w.cell? ⟨b, o + i * t.sz + j, none⟩) = (fun j => w.cell? ⟨b, o + (i * t.sz + j), none⟩) from funext fun j => by rw [Nat.add_assoc]] at this
      exact this)
    exact ⟨cs, hf, fun _ => ⟨b, o, rfl, hcs⟩⟩
  · have : xs = [] := List.eq_nil_of_length_eq_zero (by omega)
    subst this
    exact ⟨[], flat_nil w B t, fun h => absurd h h0⟩

theorem Ty.lim_bytes (t : Ty) {n : Nat} (h : n ≤ t.lim) : n * t.bytes ≤ 140737488355328 ∧ n ≤ maxLen := by
  have key : ∀ b, 0 < b → n ≤ 140737488355328 / b → n * b ≤ 140737488355328 := fun b hb hn => (Nat.le_div_iff_mul_le hb).1 hn
  have hm : (140737488355328 : Nat) ≤ maxLen := by simp only [maxLen]; omega
  have hle : t.lim ≤ 140737488355328 := by
    cases t with
    | int k => cases k <;> decide
    | bool => decide
    | str => decide
    | ii => decide
    | sl t => show 140737488355328 / 24 ≤ 140737488355328; decide
  refine ⟨?_, by omega⟩
  cases t with
  | int k =>
    cases k with
    | i64 => simp only [Ty.lim, Ty.bytes, IntKind.bytesPm] at h ⊢; omega
    | _ => exact key _ (by decide) h
  | bool => exact key 1 (by decide) h
  | str => exact key 16 (by decide) h
  | ii => exact key 16 (by decide) h
  | sl t => exact key 24 (by decide) h

section
variable {P : Program} {w : World}
/-- nothing is appended -/
theorem run_append_none (t ty e : TypeId) (i : TypeInfo) (ht : P.underlying t = some (.slice e)) (hi : P.info? e = some i) (b : Option Addr) (n c : Nat) (hc : n ≤ c) (A : Option Addr) (c' : Nat) :
    (Builtin.append_ #[t, t] ty #[.slice b n c, .slice A 0 c']).run P w = .ok (.slice b n c) w := by
  have hf : (Builtin.firstCells i.size 0 (.slice A 0 c')).run P w = .ok #[] w := by
    cases A with
    | none => rfl
    | some a => simp [Builtin.firstCells, loadCells, loadCellsFrom]
  cases b with
  | none => simp [Builtin.append_, run_underlying ht, sizeOf, typeInfo, hi, Builtin.lenOf, hc, hf]
  | some b => simp [Builtin.append_, run_underlying ht, sizeOf, typeInfo, hi, Builtin.lenOf, hc, hf, storeCells]
end
end Go.Pm

set_option linter.unusedVariables false
set_option linter.unusedSimpArgs false
namespace Go.Pm
open Go.RowKit

section
variable {X : Nat → Prop} {w0 : World} {ρ0 : P0} {mn : List Nat} {nt : Nat} {s : St} {ρ : Pl} {a : Act} {w w' : World}
def setPl (ρ : Pl) (d : Nat) (pl : Option (Nat × Nat)) : Pl := fun n => if n = d then pl else ρ n
theorem setPl_same (ρ : Pl) (d : Nat) (pl : Option (Nat × Nat)) : setPl ρ d pl d = pl := by simp [setPl]
theorem setPl_ne (ρ : Pl) {d n : Nat} (pl : Option (Nat × Nat)) (h : n ≠ d) : setPl ρ d pl n = ρ n := by simp [setPl, h]
/-- a new row without a block -/
theorem Inv.newNil (h : Inv X w0 ρ0 mn nt s ρ a w) (id : Nat) (e : TypeId) (t : Ty) (hid : getO s.o id = none) (hmn : id ∉ mn) :
    Inv X w0 ρ0 mn nt ⟨s.t, (id, some (.row e t [])) :: s.o⟩ (setPl ρ id none) a w := by
  have hne : ∀ n, getO s.o n ≠ none → n ≠ id := fun n hn e => hn (e ▸ hid)
  have hext : Ext (getO s.o) ρ (getO ((id, some (.row e t [])) :: s.o)) (setPl ρ id none) := by
    intro n
    cases hn : getO s.o n with
    | none => trivial
    | some y =>
      have e := hne n (by rw [hn]; simp)
      cases y with
      | none => simp only; rw [getO_cons, if_neg (fun h => e h.symm)]; exact hn
      | some y =>
        simp only
        refine .inr ⟨y, ?_, sameShape.refl y, setPl_ne _ _ e⟩
        rw [getO_cons, if_neg (fun h => e h.symm)]; exact hn
  have hBO : ∀ k, BO X (getO ((id, some (.row e t [])) :: s.o)) (setPl ρ id none) k → BO X (getO s.o) ρ k := by
    rintro k (hX | ⟨n, y, c', hy, hp⟩)
    · exact .inl hX
    by_cases en : n = id
    · subst en; rw [setPl_same] at hp; cases hp
    · rw [getO_cons, if_neg (fun h => en h.symm)] at hy
      rw [setPl_ne _ _ en] at hp
      exact .inr ⟨n, y, c', hy, hp⟩
  refine h.obj _ _ w hext ⟨Nat.le_refl _, fun b _ hB => ⟨fun h1 => hB (hBO b h1), rfl⟩⟩ ?_ ?_ h.fr ?_ ?_
  · intro n y hy
    by_cases en : n = id
    · subst en
      rw [getO_cons, if_pos rfl] at hy
      cases hy
      refine .inr ?_
      simp only [OR, setPl_same]
    · rw [getO_cons, if_neg (fun h => en h.symm)] at hy
      exact .inl ⟨hy, setPl_ne _ _ en, fun _ _ _ => rfl⟩
  · intro n n' y y' g c c' hy hy' hp hp'
    by_cases en : n = id
    · subst en; rw [setPl_same] at hp; cases hp
    by_cases en' : n' = id
    · subst en'; rw [setPl_same] at hp'; cases hp'
    rw [getO_cons, if_neg (fun h => en h.symm)] at hy
    rw [getO_cons, if_neg (fun h => en' h.symm)] at hy'
    rw [setPl_ne _ _ en] at hp
    rw [setPl_ne _ _ en'] at hp'
    exact h.rel.inj n n' y y' g c c' hy hy' hp hp'
  · intro n y g c hy hp
    by_cases en : n = id
    · subst en; rw [setPl_same] at hp; cases hp
    rw [getO_cons, if_neg (fun h => en h.symm)] at hy
    rw [setPl_ne _ _ en] at hp
    exact h.own n y g c hy hp
  · intro n hn y hy
    have en : n ≠ id := fun e => hmn (e ▸ hn)
    rw [getO_cons, if_neg (fun h => en h.symm)] at hy
    rw [setPl_ne _ _ en]
    exact h.mt n hn y hy
/-- an object goes, another one takes its place, maybe its block -/
theorem Inv.swap (h : Inv X w0 ρ0 mn nt s ρ a w) (d id : Nat) (x0 x' : Obj) (hid : getO s.o id = some (some x0)) (hd : getO s.o d = none) (hdm : d ∉ mn) (him : id ∉ mn)
    (pl : Option (Nat × Nat)) (hpl : ∀ g c, pl = some (g, c) → w.heap.size ≤ g ∨ ∃ c0, ρ id = some (g, c0))
    (hos : w'.os = w.os) (htape : w'.tape = w.tape) (hout : w'.output = w.output) (hs : w.heap.size ≤ w'.heap.size)
    (hb : ∀ k, k < w.heap.size → (∀ c0, ρ id ≠ some (k, c0)) → w'.heap[k]? = w.heap[k]?)
    (hx : Ext (getO s.o) ρ (getO ((d, some x') :: (id, none) :: s.o)) (setPl ρ d pl) →
      Keep w (BO X (getO s.o) ρ) w' (BO X (getO ((d, some x') :: (id, none) :: s.o)) (setPl ρ d pl)) →
      OR (getO ((d, some x') :: (id, none) :: s.o)) (setPl ρ d pl) w' (BO X (getO ((d, some x') :: (id, none) :: s.o)) (setPl ρ d pl)) d x') :
    Inv X w0 ρ0 mn nt ⟨s.t, (d, some x') :: (id, none) :: s.o⟩ (setPl ρ d pl) a w' := by
  have hdid : d ≠ id := fun e => by rw [e, hid] at hd; cases hd
  have hne : ∀ n, getO s.o n ≠ none → n ≠ d := fun n hn e => hn (e ▸ hd)
  have hget : ∀ n, getO ((d, some x') :: (id, none) :: s.o) n = if d = n then some (some x') else if id = n then some none else getO s.o n := by
    intro n; rw [getO_cons, getO_cons]
  generalize ho' : getO ((d, some x') :: (id, none) :: s.o) = o' at hx hget
  have hold : ∀ n y, o' n = some (some y) → n = d ∧ y = x' ∨ n ≠ d ∧ n ≠ id ∧ getO s.o n = some (some y) := by
    intro n y hy
    rw [hget] at hy
    by_cases e1 : d = n
    · rw [if_pos e1] at hy; cases hy; exact .inl ⟨e1.symm, rfl⟩
    · rw [if_neg e1] at hy
      by_cases e2 : id = n
      · rw [if_pos e2] at hy; cases hy
      · rw [if_neg e2] at hy; exact .inr ⟨fun e => e1 e.symm, fun e => e2 e.symm, hy⟩
  have hext : Ext (getO s.o) ρ o' (setPl ρ d pl) := by
    intro n
    cases hn : getO s.o n with
    | none => trivial
    | some y =>
      have e1 := hne n (by rw [hn]; simp)
      have hg := hget n
      rw [if_neg (fun e => e1 e.symm)] at hg
      cases y with
      | none =>
        simp only
        rw [hg]
        split
        · rfl
        · exact hn
      | some y =>
        simp only
        by_cases e2 : id = n
        · rw [if_pos e2] at hg; exact .inl hg
        · rw [if_neg e2] at hg; exact .inr ⟨y, hg.trans hn, sameShape.refl y, setPl_ne _ _ e1⟩
  have hBO : ∀ k, BO X o' (setPl ρ d pl) k → (∃ c, pl = some (k, c)) ∨ (BO X (getO s.o) ρ k ∧ ∀ c0, ρ id ≠ some (k, c0)) := by
    rintro k (hX | ⟨n, y, c, hy, hp⟩)
    · refine .inr ⟨.inl hX, fun c hc => ?_⟩
      obtain ⟨h1, h2⟩ := h.x k hX
      rcases h.own id _ k c hid hc with h3 | h3
      · omega
      · exact h2 h3
    rcases hold n y hy with ⟨rfl, rfl⟩ | ⟨e1, e2, hy⟩
    · rw [setPl_same] at hp; exact .inl ⟨c, hp⟩
    · rw [setPl_ne _ _ e1] at hp
      exact .inr ⟨.inr ⟨n, y, c, hy, hp⟩, fun c0 hc0 => e2 (h.rel.inj n id y x0 k c c0 hy hid hp hc0)⟩
  have hkeep : Keep w (BO X (getO s.o) ρ) w' (BO X o' (setPl ρ d pl)) := by
    refine ⟨hs, fun b hb0 hB => ⟨fun h1 => ?_, hb b hb0 fun c0 hc0 => hB (.inr ⟨id, x0, c0, hid, hc0⟩)⟩⟩
    rcases hBO b h1 with ⟨c, hc⟩ | ⟨h2, _⟩
    · rcases hpl b c hc with h3 | ⟨c0, h3⟩
      · omega
      · exact hB (.inr ⟨id, x0, c0, hid, h3⟩)
    · exact hB h2
  have := h.obj ((d, some x') :: (id, none) :: s.o) (setPl ρ d pl) w' (by rw [ho']; exact hext) (by rw [ho']; exact hkeep) ?_ ?_ (h.fr.step hos htape hout hs ?_) ?_ ?_
  · exact this
  · intro n y hy
    rw [ho'] at hy ⊢
    rcases hold n y hy with ⟨rfl, rfl⟩ | ⟨e1, e2, hy⟩
    · exact .inr (hx hext hkeep)
    · exact .inl ⟨hy, setPl_ne _ _ e1, fun g c hp => hb g (ob_block (h.rel.ob n y hy) hp).1 fun c0 hc0 => e2 (h.rel.inj n id y x0 g c c0 hy hid hp hc0)⟩
  · intro n n' y y' g c c' hy hy' hp hp'
    rw [ho'] at hy hy'
    rcases hold n y hy with ⟨rfl, rfl⟩ | ⟨e1, e2, hy⟩ <;> rcases hold n' y' hy' with ⟨rfl, rfl⟩ | ⟨e1', e2', hy'⟩
    · rfl
    · rw [setPl_same] at hp
      rw [setPl_ne _ _ e1'] at hp'
      rcases hpl g c hp with h3 | ⟨c0, h3⟩
      · have := (ob_block (h.rel.ob n' y' hy') hp').1; omega
      · exact absurd (h.rel.inj n' id y' x0 g c' c0 hy' hid hp' h3) e2'
    · rw [setPl_same] at hp'
      rw [setPl_ne _ _ e1] at hp
      rcases hpl g c' hp' with h3 | ⟨c0, h3⟩
      · have := (ob_block (h.rel.ob n y hy) hp).1; omega
      · exact absurd (h.rel.inj n id y x0 g c c0 hy hid hp h3) e2
    · rw [setPl_ne _ _ e1] at hp
      rw [setPl_ne _ _ e1'] at hp'
      exact h.rel.inj n n' y y' g c c' hy hy' hp hp'
  · intro k hk hn
    exact hb k hk fun c0 hc0 => hn (h.own id x0 k c0 hid hc0)
  · intro n y g c hy hp
    rw [ho'] at hy
    rcases hold n y hy with ⟨rfl, rfl⟩ | ⟨e1, e2, hy⟩
    · rw [setPl_same] at hp
      rcases hpl g c hp with h3 | ⟨c0, h3⟩
      · have := h.fr.size; exact .inl (by omega)
      · exact h.own id x0 g c0 hid h3
    · rw [setPl_ne _ _ e1] at hp; exact h.own n y g c hy hp
  · intro n hn y hy
    rw [ho'] at hy
    rcases hold n y hy with ⟨rfl, rfl⟩ | ⟨e1, e2, hy⟩
    · exact absurd hn hdm
    · rw [setPl_ne _ _ e1]; exact h.mt n hn y hy
end

section
variable {P : Program} {X : Nat → Prop} {w0 : World} {ρ0 : P0} {mn : List Nat} {nt : Nat} {s : St} {ρ : Pl} {a : Act} {w : World}
/-- the cells of what is appended -/
theorem src_flat (h : Inv X w0 ρ0 mn nt s ρ a w) {t : Ty} {x : L} {ys : List t.den} {u : Value} (hc : contentOf (getO s.o) t x = some ys) (hv : LR (getO s.o) ρ w (BO X (getO s.o) ρ) x u) :
    ∃ A m c, u = .slice A m c ∧ ys.length = m ∧ ∃ cs, FlatR w (BO X (getO s.o) ρ) t ys cs ∧ (0 < m → ∃ b o, A = some ⟨b, o, none⟩ ∧ ∀ j v, cs[j]? = some v → w.cell? ⟨b, o + j, none⟩ = some v) := by
  unfold contentOf at hc
  split at hc
  · cases hc
    obtain rfl := hv
    exact ⟨none, 0, 0, rfl, rfl, [], flat_nil _ _ _, fun h => by omega⟩
  · rename_i u' xs cl
    unfold castL at hc
    split at hc
    · rename_i e
      subst e
      cases hc
      have hv' : SlR (ElR w (BO X (getO s.o) ρ) u') u'.sz w (BO X (getO s.o) ρ) xs cl u := hv
      obtain ⟨A, n, c, rfl, _⟩ := id hv'
      obtain ⟨h1, h2⟩ := hv'.flat
      exact ⟨A, n, c, rfl, h1, h2⟩
    · cases hc
  · rename_i id win
    split at hc
    · rename_i e' u' xs hid
      unfold castL at hc
      split at hc
      · rename_i e
        subst e
        cases hc
        simp only [LR, hid] at hv
        have ho := h.rel.ob id _ hid
        simp only [OR] at ho
        cases win with
        | none =>
          simp only [RwR] at hv
          cases hp : ρ id with
          | none =>
            rw [hp] at hv
            obtain ⟨rfl, h0⟩ := hv
            have : xs = [] := List.eq_nil_of_length_eq_zero h0
            subst this
            exact ⟨none, 0, 0, rfl, rfl, [], flat_nil _ _ _, fun h => by omega⟩
          | some p =>
            obtain ⟨g, c⟩ := p
            rw [hp] at hv ho
            obtain ⟨rfl, _⟩ := hv
            obtain ⟨cur, hh, _, _, _, h4⟩ := ho
            obtain ⟨cs, hf, hcs⟩ := flat_of (f := fun j => w.cell? ⟨g, j, none⟩) h4
            exact ⟨_, _, _, rfl, rfl, cs, hf, fun _ => ⟨g, 0, rfl, fun j v hj => by rw [Nat.zero_add]; exact hcs j v hj⟩⟩
        | some q =>
          obtain ⟨i0, m⟩ := q
          simp only [RwR] at hv
          obtain ⟨ha, hm, hl, A, c, rfl, hcc, hA⟩ := hv
          have hlen : (winOf xs (some (i0, m))).length = m.toNat := by simp [winOf]; omega
          by_cases h0 : 0 < m
          · obtain ⟨g, c', hg, rfl⟩ := hA.1 h0
            rw [hg] at ho
            obtain ⟨cur, hh, _, _, _, h4⟩ := ho
            obtain ⟨cs, hf, hcs⟩ := flat_of (xs := winOf xs (some (i0, m))) (f := fun j => w.cell? ⟨g, i0.toNat * u'.sz + j, none⟩) (fun i hi => by
              have hi' : i0.toNat + i < xs.length := by rw [hlen] at hi; omega
              have e1 : (winOf xs (some (i0, m)))[i] = xs[i0.toNat + i] := by simp [winOf]
              rw [e1]
              have := h4 _ hi'
              rw [show (fun j => w.cell? ⟨g, (i0.toNat + i) * u'.sz + j, none⟩) = (fun j => w.cell? ⟨g, i0.toNat * u'.sz + (i * u'.sz + j), none⟩) from funext fun j => by rw [Nat.add_mul, Nat.add_assoc]] at this
              exact this)
            exact ⟨_, _, _, rfl, hlen, cs, hf, fun _ => ⟨g, _, rfl, hcs⟩⟩
          · have : winOf xs (some (i0, m)) = [] := List.eq_nil_of_length_eq_zero (by omega)
            rw [this]
            exact ⟨A, m.toNat, c, rfl, by simp; omega, [], flat_nil _ _ _, fun h => by omega⟩
      · cases hc
    · cases hc
  · cases hc

theorem row_of_flat {w' : World} {B' : Nat → Prop} {t : Ty} {xs : List t.den} {cs : List Value} (hf : FlatR w' B' t xs cs) {g : Nat} {cur : Array Value} {e : TypeId} (hh : w'.heap[g]? = some (.cells cur e (0, 0)))
    (ht : cur.toList.take (xs.length * t.sz) = cs) : ∀ i (h : i < xs.length), ElR w' B' t xs[i] (fun j => w'.cell? ⟨g, i * t.sz + j, none⟩) := by
  intro i hi
  refine (hf.2.2 i hi).congr fun j hj => ?_
  rw [← ht, List.getElem?_take, if_pos (ix_lt hi hj)]
  simp [World.cell?, hh]
end
end Go.Pm

set_option linter.unusedVariables false
set_option linter.unusedSimpArgs false
namespace Go.Pm
open Go.RowKit

theorem castL_some {t u : Ty} {xs : List t.den} {ys : List u.den} (h : castL xs = some ys) : ∃ e : t = u, e ▸ xs = ys := by
  unfold castL at h
  split at h
  · rename_i e; cases h; exact ⟨e, rfl⟩
  · cases h
theorem pmNew_some {mn : List Nat} {o : Look} {d : Option Nat} {x : Obj} {v : Nat → V} {fr : List Nat} {drop : List (Nat × Option Obj)} {e : Eff}
    (h : pmNew mn o d x v fr drop some = some e) : ∃ d', d = some d' ∧ d' ∉ mn ∧ o d' = none ∧ e = ⟨v d', (d', some x) :: drop, fr⟩ := by
  unfold pmNew at h
  split at h
  · rename_i d'
    obtain ⟨h1, h2⟩ := cond_some' h
    cases h2
    simp only [Bool.or_eq_false_iff] at h1
    refine ⟨d', rfl, ?_, ?_, rfl⟩
    · intro hm
      have := h1.1
      simp [hm] at this
    · cases ho : o d' with
      | none => rfl
      | some y => rw [ho] at h1; simp at h1
  · cases h
theorem take_self {α : Type} (l r : List α) (n : Nat) (h : l.length = n) : (l ++ r).take n = l := by subst h; simp
theorem zero_size (t : Ty) : (t.zero).cells.size = t.sz := by cases t <;> rfl
/-- the slot that is written has the new row -/
theorem VR_new {s : St} {ρ : Pl} {w : World} {B : Nat → Prop} {d : Nat} {e : TypeId} {t : Ty} {xs : List t.den} {u : Value} (rest : Objs) (hu : RwR (ρ d) t.sz xs.length none u) :
    VR (getO ((d, some (.row e t xs)) :: rest)) ρ w B (.l (.rw d none)) u := by
  simp only [VR, LR, getO_cons, if_true]
  exact hu

section
variable {P : Program} {X : Nat → Prop} {w0 : World} {ρ0 : P0} {mn : List Nat} {nt : Nat} {s : St} {ρ : Pl} {a : Act} {w : World} {oper : Oper}
theorem app_nofrz (s : St) (d : Option Nat) (v : V) (o : Objs) : s.app d ⟨v, o, []⟩ = (⟨s.t, o ++ s.o⟩ : St).put d v := rfl
theorem exec_append {x y : Operand} {t : TypeId} (ho : oper.op = .call { callee := .builtin .append, args := #[x, y], argTypes := #[t, t] }) {v : Value} {w' : World}
    (hr : (Builtin.append_ #[t, t] oper.type #[a.eval x, a.eval y]).run P w = .ok v w') : (execOp a.eval oper).run P w = .ok (.value v) w' := by
  unfold execOp
  simp only [ho, resolve, invoke, builtin, Sem.run_bind, Sem.run_pure, Result.andThen_ok, List.map_toArray, List.map_cons, List.map_nil, hr]
theorem does_of_inv {e : Eff} {v : Value} {w' : World} {ρ' : Pl} (hr : (execOp a.eval oper).run P w = .ok (.value v) w') (h : Inv X w0 ρ0 mn nt (s.app oper.dst e) ρ' (a.put oper.dst v) w') : Does P X w0 ρ0 mn nt s e oper a w := by
  intro Q
  unfold Oper.wp
  rw [hr]
  exact ⟨ρ', h⟩
/-- a row that grew out of nothing, or out of a full slice, in a new block -/
theorem grown_row {τ : Ty} {zs : List τ.den} {cs : List Value} (h : Inv X w0 ρ0 mn nt s ρ a w) (hf : FlatR w (BO X (getO s.o) ρ) τ zs cs) (e : TypeId) (cap : Nat) (hcap : zs.length ≤ cap) (hm : cap ≤ maxLen)
    {w' : World} {o' : Look} {ρ' : Pl} {B' : Nat → Prop} (hk : Keep w (BO X (getO s.o) ρ) w' B') {g : Nat} (d : Nat) (hp : ρ' d = some (g, cap))
    {cur : Array Value} (hh : w'.heap[g]? = some (.cells cur e (0, 0))) (hsz : cur.size = cap * τ.sz) (ht : cur.toList.take (zs.length * τ.sz) = cs) : OR o' ρ' w' B' d (.row e τ zs) := by
  simp only [OR, hp]
  exact ⟨cur, hh, hcap, hm, hsz, row_of_flat (hf.keep hk) hh ht⟩
theorem does_append (h : Inv X w0 ρ0 mn nt s ρ a w) (hd : ∀ d, oper.dst = some d → d < nt) {t e : TypeId} {τ : Ty} (htd : chkTD P t (.slice e τ) = true) {x y : Operand}
    (ho : oper.op = .call { callee := .builtin .append, args := #[x, y], argTypes := #[t, t] }) {ef : Eff}
    (he : pmAppend mn e τ (getO s.o) oper.dst (s.ev x) (s.ev y) some = some ef) : Does P X w0 ρ0 mn nt s ef oper a w := by
  obtain ⟨hu, hel, _⟩ := okSlice htd
  obtain ⟨i, dd, hi, hz, hsz, hby, hdu, hda⟩ := okEl hel
  have hx := h.ev x
  have hy := h.ev y
  unfold pmAppend at he
  split at he
  · cases he
  rename_i ys hys
  unfold srcOf at hys
  split at hys
  case h_2 => cases hys
  rename_i ly hly
  rw [hly] at hy
  obtain ⟨A, m, c', huy, hm, cs, hf, hA⟩ := src_flat h hys hy
  -- the three forms of what is appended to
  have fresh : ∀ (olds : List τ.den) (cso : List Value) (b : Option Addr) (n c : Nat) (drop : List (Nat × Option Obj)) (d : Nat), oper.dst = some d → d ∉ mn → getO s.o d = none →
      a.eval x = .slice b n c → olds.length = n → n ≤ c → FlatR w (BO X (getO s.o) ρ) τ olds cso → (0 < n → ∃ g o, b = some ⟨g, o, none⟩ ∧ ∀ j v, cso[j]? = some v → w.cell? ⟨g, o + j, none⟩ = some v) →
      c < n + m → (b = none → c = 0) → olds.length + ys.length ≤ τ.lim →
      ∃ (cap : Nat) (cur : Array Value), n + m ≤ cap ∧ cap ≤ maxLen ∧ cur.size = cap * τ.sz ∧ cur.toList.take ((olds ++ ys).length * τ.sz) = cso ++ cs ∧
        (execOp a.eval oper).run P w = .ok (.value (.slice (some ⟨w.heap.size, 0, none⟩) (n + m) cap)) (w.drew.alloc (.cells cur e)) := by
    intro olds cso b n c drop d hd' _ _ hax hn hnc hfo hb hlt hbn hlim
    obtain ⟨hb1, hb2⟩ := τ.lim_bytes hlim
    have hm0 : 0 < m := by omega
    obtain ⟨by0, oy, rfl, hcy⟩ := hA hm0
    have hnews : ∀ j v, cs[j]? = some v → w.cell? ((⟨by0, oy, none⟩ : Addr).add j) = some v := fun j v hj => by rw [addr_add]; exact hcy j v hj
    have hlen : (cso ++ cs).length = (n + m) * i.size := by rw [List.length_append, hfo.1, hf.1, hsz, hn, hm, Nat.add_mul]
    have h63 : ((n + m : Nat) : Int) ≤ 9223372036854775807 := by simp only [maxLen] at hb2; omega
    have hcap : ∀ old, grownCap w (n + m) old e ≤ maxLen := fun old => grownCap_le_maxLen w (n + m) old e (by omega)
    have hge : ∀ old, n + m ≤ grownCap w (n + m) old e := fun old => grownCap_ge w (n + m) old e
    have hfl : (olds ++ ys).length * τ.sz = (cso ++ cs).length := by rw [hlen, List.length_append, hn, hm, hsz]
    cases b with
    | none =>
      have hc0 := hbn rfl
      have hn0 : n = 0 := by omega
      subst hc0
      subst hn0
      have ho0 : olds = [] := List.eq_nil_of_length_eq_zero hn
      subst ho0
      have hcso : cso = [] := by have := hfo.1; exact List.eq_nil_of_length_eq_zero (by simpa using this)
      subst hcso
      have hr := run_append_nil (P := P) w t oper.type e i τ.zero hu hi hz ⟨by0, oy, none⟩ m c' cs (by rw [hf.1, hm, hsz]) hnews hm0 (by simpa using h63) (by rw [hby]; have := hb1; simp only [List.length_nil, Nat.zero_add] at this; rw [hm] at this; omega)
      refine ⟨grownCap w m 0 e, _, by simpa using hge 0, by simpa using hcap 0, ?_, ?_, by rw [Nat.zero_add]; exact exec_append ho (by rw [hax, huy]; exact hr)⟩
      · have := hge 0
        simp only [Nat.zero_add] at this
        rw [Array.size_append, List.size_toArray, size_zeroCells, zero_size, hf.1, hm, ← Nat.add_mul]
        congr 1; omega
      · rw [hfl]
        simp
    | some b =>
      by_cases hn0 : 0 < n
      · obtain ⟨g, og, hbe, hco⟩ := hb hn0
        cases hbe
        have hr := run_append_grow (P := P) w t oper.type e i τ.zero hu hi hz ⟨g, og, none⟩ n c cso (by rw [hfo.1, hn, hsz]) (fun j v hj => by rw [addr_add]; exact hco j v hj) ⟨by0, oy, none⟩ m c' cs (by rw [hf.1, hm, hsz]) hnews hlt h63
          (growslice_fits (by omega) (by rw [hby]; rw [hn, hm] at hb1; exact hb1))
        refine ⟨grownCap w (n + m) c e, _, hge c, hcap c, ?_, ?_, exec_append ho (by rw [hax, huy]; exact hr)⟩
        · have := hge c
          rw [Array.size_append, Array.size_append, List.size_toArray, List.size_toArray, size_zeroCells, zero_size, hf.1, hm, hfo.1, hn, ← Nat.add_mul, ← Nat.add_mul]
          congr 1; omega
        · rw [hfl, Array.toList_append, Array.toList_append]
          exact take_self (cso ++ cs) _ _ rfl
      · have hn00 : n = 0 := by omega
        subst hn00
        have ho0 : olds = [] := List.eq_nil_of_length_eq_zero hn
        subst ho0
        have hcso : cso = [] := by have := hfo.1; exact List.eq_nil_of_length_eq_zero (by simpa using this)
        subst hcso
        have hr := run_append_grow (P := P) w t oper.type e i τ.zero hu hi hz b 0 c [] (by simp) (by simp) ⟨by0, oy, none⟩ m c' cs (by rw [hf.1, hm, hsz]) hnews hlt h63
          (growslice_fits (by omega) (by rw [hby]; simpa [hm] using hb1))
        refine ⟨grownCap w (0 + m) c e, _, hge c, hcap c, ?_, ?_, exec_append ho (by rw [hax, huy]; exact hr)⟩
        · have := hge c
          rw [Array.size_append, Array.size_append, List.size_toArray, List.size_toArray, size_zeroCells, zero_size, hf.1, hm, List.length_nil, Nat.zero_add, ← Nat.add_mul]
          congr 1; omega
        · rw [hfl]
          simp
  have alloc_frame : ∀ (cur : Array Value) k, k < w.heap.size → (w.drew.alloc (.cells cur e)).heap[k]? = w.heap[k]? := fun cur k hk => heap_alloc_old w.drew _ k hk
  have alloc_new : ∀ (cur : Array Value), (w.drew.alloc (.cells cur e)).heap[w.heap.size]? = some (.cells cur e (0, 0)) := fun cur => heap_alloc_new w.drew _
  have alloc_size : ∀ (cur : Array Value), w.heap.size ≤ (w.drew.alloc (.cells cur e)).heap.size := fun cur => by show w.heap.size ≤ (w.heap.push _).size; simp
  split at he
  · -- onto nil
    rename_i hlx
    rw [hlx] at hx
    have hax : a.eval x = .slice none 0 0 := hx
    obtain ⟨hlim, he⟩ := chk_some he
    obtain ⟨d, hd', hdm, hdo, rfl⟩ := pmNew_some he
    by_cases hm0 : m = 0
    · have hy0 : ys = [] := List.eq_nil_of_length_eq_zero (by omega)
      subst hy0
      subst hm0
      have hr := run_append_none (P := P) (w := w) t oper.type e i hu hi none 0 0 (Nat.le_refl _) A c'
      refine does_of_inv (exec_append ho (by rw [hax, huy]; exact hr)) (ρ' := setPl ρ d none) ?_
      rw [app_nofrz, hd']
      refine Inv.put (h.newNil d e τ hdo hdm) (some d) (by rintro _ ⟨⟩; exact hd d hd') (VR_new (s := s) _ ?_)
      rw [setPl_same]
      exact ⟨rfl, rfl⟩
    · obtain ⟨cap, cur, h1, h2, h3, h4, hr⟩ := fresh [] [] none 0 0 [] d hd' hdm hdo hax rfl (Nat.le_refl _) (flat_nil _ _ _) (fun h => by omega) (by omega) (fun _ => rfl) (by simpa using hlim)
      refine does_of_inv hr (ρ' := fun n => if n = d then some (w.heap.size, cap) else ρ n) ?_
      rw [app_nofrz, hd']
      refine Inv.put (h.new (w' := w.drew.alloc (.cells cur e)) d (.row e τ ys) w.heap.size cap hdo hdm rfl rfl rfl (alloc_size cur) (Nat.le_refl _) (alloc_frame cur) fun B' _ _ hk => ?_) (some d) (by rintro _ ⟨⟩; exact hd d hd') (VR_new (s := s) _ ?_)
      · exact grown_row h hf e cap (by omega) h2 hk d (by simp) (alloc_new cur) h3 (by simpa using h4)
      · simp only [if_true]
        rw [Nat.zero_add] at h1 ⊢
        rw [hm]
        exact ⟨rfl, h1⟩
  · -- onto a full slice that is read
    rename_i u' xs hlx
    rw [hlx] at hx
    split at he
    · rename_i xs' hcast
      obtain ⟨rfl, hxs⟩ := castL_some hcast
      cases hxs
      obtain ⟨⟨hlim, hpos⟩, he⟩ := chk_some he
      obtain ⟨d, hd', hdm, hdo, rfl⟩ := pmNew_some he
      have hx' : SlR (ElR w (BO X (getO s.o) ρ) u') u'.sz w (BO X (getO s.o) ρ) xs true (a.eval x) := hx
      obtain ⟨Ax, n, c, hax, hn, hcl, hnc, _⟩ := id hx'
      rw [hax] at hx'
      obtain ⟨_, cso, hfo, hco⟩ := hx'.flat
      have hcn := hcl rfl
      obtain ⟨cap, cur, h1, h2, h3, h4, hr⟩ := fresh xs cso Ax n c [] d hd' hdm hdo hax hn hnc hfo hco (by omega) (fun hA0 => by
        rcases Nat.eq_zero_or_pos n with h0 | h0
        · omega
        · obtain ⟨g, o, hg, _⟩ := hco h0; rw [hA0] at hg; cases hg) hlim
      refine does_of_inv hr (ρ' := fun n => if n = d then some (w.heap.size, cap) else ρ n) ?_
      rw [app_nofrz, hd']
      refine Inv.put (h.new (w' := w.drew.alloc (.cells cur e)) d (.row e u' (xs ++ ys)) w.heap.size cap hdo hdm rfl rfl rfl (alloc_size cur) (Nat.le_refl _) (alloc_frame cur) fun B' _ _ hk => ?_) (some d) (by rintro _ ⟨⟩; exact hd d hd') (VR_new (s := s) _ ?_)
      · exact grown_row h (hfo.append hf) e cap (by rw [List.length_append]; omega) h2 hk d (by simp) (alloc_new cur) h3 h4
      · simp only [if_true]
        rw [List.length_append, hn, hm]
        exact ⟨rfl, h1⟩
    · cases he
  · -- onto a row of its own
    rename_i id hlx
    rw [hlx] at hx
    split at he
    · rename_i e' u' xs hid
      split at he
      · rename_i xs' hcast
        obtain ⟨rfl, hxs⟩ := castL_some hcast
        cases hxs
        obtain ⟨hee, he1⟩ := cond_some he
        clear he
        simp only [Bool.and_eq_true, Bool.not_eq_true'] at hee
        have hee1 := Nat.eq_of_beq_eq_true hee.1
        subst hee1
        have him : id ∉ mn := by intro hm; have := hee.2; simp [hm] at this
        obtain ⟨hlim, he2⟩ := chk_some he1
        obtain ⟨d, hd', hdm, hdo, rfl⟩ := pmNew_some he2
        simp only [VR, LR, hid, RwR] at hx
        have hob := h.rel.ob id _ hid
        simp only [OR] at hob
        cases hp : ρ id with
        | none =>
          rw [hp] at hx hob
          obtain ⟨hax, _⟩ := hx
          subst hob
          by_cases hm0 : m = 0
          · have hy0 : ys = [] := List.eq_nil_of_length_eq_zero (by omega)
            subst hy0
            subst hm0
            have hr := run_append_none (P := P) (w := w) t oper.type e i hu hi none 0 0 (Nat.le_refl _) A c'
            refine does_of_inv (exec_append ho (by rw [hax, huy]; exact hr)) (ρ' := setPl ρ d none) ?_
            rw [app_nofrz, hd']
            refine Inv.put (h.swap (w' := w) d id _ _ hid hdo hdm him none (by rintro _ _ ⟨⟩) rfl rfl rfl (Nat.le_refl _) (fun _ _ _ => rfl) fun _ _ => ?_) (some d) (by rintro _ ⟨⟩; exact hd d hd') (VR_new (s := s) _ ?_)
            · simp only [OR, setPl_same]; rfl
            · rw [setPl_same]
              exact ⟨rfl, rfl⟩
          · obtain ⟨cap, cur, h1, h2, h3, h4, hr⟩ := fresh [] [] none 0 0 [] d hd' hdm hdo hax rfl (Nat.le_refl _) (flat_nil _ _ _) (fun h => by omega) (by omega) (fun _ => rfl) hlim
            refine does_of_inv hr (ρ' := setPl ρ d (some (w.heap.size, cap))) ?_
            rw [app_nofrz, hd']
            refine Inv.put (h.swap (w' := w.drew.alloc (.cells cur e)) d id _ _ hid hdo hdm him (some (w.heap.size, cap)) (by rintro g c ⟨⟩; exact .inl (Nat.le_refl _)) rfl rfl rfl (alloc_size cur) (fun k hk _ => alloc_frame cur k hk) fun _ hk => ?_) (some d) (by rintro _ ⟨⟩; exact hd d hd') (VR_new (s := s) _ ?_)
            · exact grown_row h hf e cap (by simpa [hm] using h1) h2 hk d (setPl_same _ _ _) (alloc_new cur) h3 (by simpa using h4)
            · rw [setPl_same]
              rw [List.length_append, hm]
              exact ⟨rfl, h1⟩
        | some q =>
          obtain ⟨g, c⟩ := q
          rw [hp] at hx hob
          obtain ⟨hax, hnc⟩ := hx
          obtain ⟨cur0, hh, hlc, hcm, hcs, hE⟩ := hob
          obtain ⟨cso, hfo, hco⟩ := flat_of (f := fun j => w.cell? ⟨g, j, none⟩) hE
          have hpre : cur0.toList.take (xs.length * u'.sz) = cso := by
            apply List.ext_getElem
            · rw [List.length_take, Array.length_toList (xs := cur0), hcs, hfo.1]
              exact Nat.min_eq_left (Nat.mul_le_mul_right _ hlc)
            · intro k hk1 hk2
              have h1 := hco k _ (List.getElem?_eq_getElem hk2)
              simp only [World.cell?, hh, Option.isSome_none, Bool.false_eq_true, if_false] at h1
              rw [List.getElem_take, Array.getElem_toList]
              rw [Array.getElem?_eq_some_iff] at h1
              exact h1.2
          by_cases hroom : xs.length + m ≤ c
          · by_cases hm0 : m = 0
            · have hy0 : ys = [] := List.eq_nil_of_length_eq_zero (by omega)
              subst hy0
              subst hm0
              have hr := run_append_none (P := P) (w := w) t oper.type e i hu hi (some ⟨g, 0, none⟩) xs.length c hnc A c'
              refine does_of_inv (exec_append ho (by rw [hax, huy]; exact hr)) (ρ' := setPl ρ d (some (g, c))) ?_
              rw [app_nofrz, hd']
              refine Inv.put (h.swap (w' := w) d id _ _ hid hdo hdm him (some (g, c)) (by rintro _ _ ⟨⟩; exact .inr ⟨c, hp⟩) rfl rfl rfl (Nat.le_refl _) (fun _ _ _ => rfl) fun _ hk => ?_) (some d) (by rintro _ ⟨⟩; exact hd d hd') (VR_new (s := s) _ ?_)
              · exact grown_row h (by rw [List.append_nil]; exact hfo) e c (by simpa using hlc) hcm hk d (setPl_same _ _ _) hh hcs (by rw [List.append_nil]; exact hpre)
              · rw [setPl_same]
                simp only [RwR, List.append_nil]
                exact ⟨trivial, hnc⟩
            · obtain ⟨by0, oy, rfl, hcy⟩ := hA (by omega)
              have hnews : ∀ j v, cs[j]? = some v → w.cell? ((⟨by0, oy, none⟩ : Addr).add j) = some v := fun j v hj => by rw [addr_add]; exact hcy j v hj
              have hfit : xs.length * i.size + cs.length ≤ cur0.size := by rw [hf.1, hm, hcs, hsz, ← Nat.add_mul]; exact Nat.mul_le_mul_right _ hroom
              have hr := run_append_room (P := P) w t oper.type e i hu hi g xs.length c cur0 hh ⟨by0, oy, none⟩ m c' cs (by rw [hf.1, hm, hsz]) hnews hf.2.1 hroom hfit
              refine does_of_inv (exec_append ho (by rw [hax, huy]; exact hr)) (ρ' := setPl ρ d (some (g, c))) ?_
              rw [app_nofrz, hd']
              refine Inv.put (h.swap (w' := w.setRow g _) d id _ _ hid hdo hdm him (some (g, c)) (by rintro _ _ ⟨⟩; exact .inr ⟨c, hp⟩) rfl rfl rfl (by simp [World.setRow]) (fun k _ hk => setRow_other w g k _ fun e => hk c (e ▸ hp)) fun _ hk => ?_) (some d) (by rintro _ ⟨⟩; exact hd d hd') (VR_new (s := s) _ ?_)
              · refine grown_row h (hfo.append hf) e c (by rw [List.length_append, hm]; exact hroom) hcm hk d (setPl_same _ _ _) (setRow_heap w g cur0 _ e _ hh) ?_ ?_
                · simp only [List.size_toArray, List.length_append, List.length_take, List.length_drop, Array.length_toList]
                  rw [hsz] at hfit ⊢
                  omega
                · rw [hsz, hpre]
                  have : (xs ++ ys).length * u'.sz = (cso ++ cs).length := by rw [List.length_append, List.length_append, hfo.1, hf.1, Nat.add_mul]
                  rw [this]
                  exact take_self (cso ++ cs) _ _ rfl
              · rw [setPl_same]
                rw [List.length_append, hm]
                exact ⟨rfl, hroom⟩
          · obtain ⟨cap, cur, h1, h2, h3, h4, hr⟩ := fresh xs cso (some ⟨g, 0, none⟩) xs.length c [] d hd' hdm hdo hax rfl hnc hfo (fun _ => ⟨g, 0, rfl, fun j v hj => by rw [Nat.zero_add]; exact hco j v hj⟩) (by omega) (by rintro ⟨⟩) hlim
            refine does_of_inv hr (ρ' := setPl ρ d (some (w.heap.size, cap))) ?_
            rw [app_nofrz, hd']
            refine Inv.put (h.swap (w' := w.drew.alloc (.cells cur e)) d id _ _ hid hdo hdm him (some (w.heap.size, cap)) (by rintro g c ⟨⟩; exact .inl (Nat.le_refl _)) rfl rfl rfl (alloc_size cur) (fun k hk _ => alloc_frame cur k hk) fun _ hk => ?_) (some d) (by rintro _ ⟨⟩; exact hd d hd') (VR_new (s := s) _ ?_)
            · exact grown_row h (hfo.append hf) e cap (by rw [List.length_append, hm]; exact h1) h2 hk d (setPl_same _ _ _) (alloc_new cur) h3 h4
            · rw [setPl_same]
              rw [List.length_append, hm]
              exact ⟨rfl, h1⟩
      · cases he
    · cases he
  · cases he
end
end Go.Pm

set_option linter.unusedVariables false
set_option linter.unusedSimpArgs false
namespace Go.Pm
open Go.RowKit

section
variable {P : Program} {X : Nat → Prop} {w0 : World} {ρ0 : P0} {mn : List Nat} {nt : Nat} {s : St} {ρ : Pl} {a : Act} {w : World} {oper : Oper}
/-- what is frozen reads as it did, by a slice that is read alone -/
theorem frz_content (h : Inv X w0 ρ0 mn nt s ρ a w) {t : Ty} {x : L} {ys : List t.den} {u : Value} (hc : contentOf (getO s.o) t x = some ys) (hv : LR (getO s.o) ρ w (BO X (getO s.o) ρ) x u)
    (ids : List Nat) (hi : ∀ id ∈ rwIdsL x, id ∈ ids) : SlR (ElR w (BO X (getO (frzIds s ids).o) ρ) t) t.sz w (BO X (getO (frzIds s ids).o) ρ) ys false u := by
  induction ids generalizing s with
  | nil =>
    unfold contentOf at hc
    split at hc
    · cases hc
      obtain rfl := hv
      exact ⟨none, 0, 0, rfl, rfl, by simp, Nat.le_refl _, fun h => by omega⟩
    · obtain ⟨rfl, e⟩ := castL_some hc
      cases e
      exact SlR.unclip hv
    · exact absurd (hi _ (List.mem_singleton.2 rfl)) (by simp)
    · cases hc
  | cons id r ih =>
    have h1 := h.frz id
    cases x with
    | rw j win =>
      simp only [contentOf] at hc
      split at hc
      · rename_i e' u' xs hid
        obtain ⟨rfl, e⟩ := castL_some hc
        cases e
        simp only [LR, hid] at hv
        by_cases ej : j = id
        · subst ej
          have hr : SlR (ElR w (BO X (getO (s.frz j).o) ρ) u') u'.sz w (BO X (getO (s.frz j).o) ρ) (winOf xs win) false u := by
            refine winOf_ro h hid hv _ (BO_frz s ρ j) ?_
            intro g c hp hb
            rcases hb with hX | ⟨n, y, c', hy, hq⟩
            · obtain ⟨h3, h4⟩ := h.x g hX
              rcases h.own j _ g c hid hp with h5 | h5
              · omega
              · exact h4 h5
            have hfz : getO (s.frz j).o n ≠ none := by rw [hy]; simp
            unfold St.frz at hy
            rw [hid] at hy
            simp only at hy
            rw [getO_cons, getO_frz] at hy
            split at hy
            · cases hy
            · rename_i hne
              cases hn : getO s.o n with
              | none => rw [hn] at hy; cases hy
              | some z =>
                cases z with
                | none => rw [hn] at hy; cases hy
                | some z => exact hne (h.rel.inj j n _ z g c c' hid hn hp hq)
          exact hr.keep (keep_frzIds w ρ r (s.frz j)) (ElR.keep (keep_frzIds w ρ r (s.frz j)) u')
        · have hrow : getO (s.frz id).o j = some (some (.row e' u' xs)) := by
            rcases frz_look s id j ej with h2 | ⟨_, _, _, h2, _⟩
            · rw [h2]; exact hid
            · rw [hid] at h2; cases h2
          refine ih h1 (by simp only [contentOf, hrow, castL]; rfl) (by simp only [LR, hrow]; exact hv) ?_
          intro k hk
          have hkj : k = j := by simpa [rwIdsL] using hk
          have := hi k hk
          rcases List.mem_cons.1 this with h3 | h3
          · exact absurd (hkj.symm.trans h3) ej
          · exact h3
      · cases hc
    | nil =>
      refine ih h1 hc hv ?_
      intro k hk; simp [rwIdsL] at hk
    | ro u' xs cl =>
      refine ih h1 hc ?_ ?_
      · have hk : Keep w (BO X (getO s.o) ρ) w (BO X (getO (s.frz id).o) ρ) := ⟨Nat.le_refl _, fun b _ hb => ⟨fun h => hb (BO_frz s ρ id b h), rfl⟩⟩
        exact SlR.keep hk (ElR.keep hk u') hv
      · intro k hk; simp [rwIdsL] at hk
    | un => simp [contentOf] at hc
    | p v => simp [contentOf] at hc
    | ptr _ _ _ => simp [contentOf] at hc
    | rp _ _ _ => simp [contentOf] at hc
    | fn _ _ => simp [contentOf] at hc
/-- an element out of a value, as cells -/
theorem toDen_flat (h : Inv X w0 ρ0 mn nt s ρ a w) {t : Ty} {v : V} {x : t.den} {u : Value} (hx : toDen (getO s.o) t v = some x) (hv : VR (getO s.o) ρ w (BO X (getO s.o) ρ) v u)
    (ids : List Nat) (hi : ∀ id ∈ rwIds v, id ∈ ids) : u.cells.size = t.sz ∧ (∀ c ∈ u.cells.toList, c.oneCell' = true) ∧ ElR w (BO X (getO (frzIds s ids).o) ρ) t x (fun j => u.cells[j]?) := by
  unfold toDen at hx
  split at hx
  · obtain ⟨rfl, _⟩ := VR_p hv
    obtain ⟨hk, hx1⟩ := cond_some hx
    clear hx
    obtain rfl := of_decide_eq_true hk
    cases hx1
    exact ⟨rfl, by simp [Value.cells, Value.oneCell'], rfl⟩
  · obtain ⟨rfl, _⟩ := VR_p hv
    cases hx
    exact ⟨rfl, by simp [Value.cells, Value.oneCell'], rfl⟩
  · obtain ⟨rfl, _⟩ := VR_p hv
    cases hx
    exact ⟨rfl, by simp [Value.cells, Value.oneCell'], rfl⟩
  · rename_i p q
    cases hx
    obtain ⟨cs, rfl, hl, hc⟩ := hv
    have e1 : cs = #[.int .i64 p, .int .i64 q] := by
      have h0 := hc 0 _ (cs.toList[0]'(by rw [hl]; simp)) rfl (List.getElem?_eq_getElem _)
      have h1 := hc 1 _ (cs.toList[1]'(by rw [hl]; simp)) rfl (List.getElem?_eq_getElem _)
      apply Array.ext'
      apply List.ext_getElem (by rw [hl]; rfl)
      intro n hn _
      match n, hn with
      | 0, _ => exact h0.1.1
      | 1, _ => exact h1.1.1
      | n + 2, hn => rw [hl] at hn; simp at hn; omega
    subst e1
    exact ⟨rfl, by simp [Value.cells, Value.oneCell'], rfl, rfl⟩
  · rename_i t' y
    have := frz_content h hx hv ids hi
    obtain ⟨A, n, c, rfl, _⟩ := id this
    exact ⟨rfl, by simp [Value.cells, Value.oneCell'], _, rfl, this⟩
  · cases hx

/-- a box -/
theorem does_box (h : Inv X w0 ρ0 mn nt s ρ a w) (hd : ∀ d, oper.dst = some d → d < nt) {e : TypeId} {ls : List L} {cs : Array Value} {d : Nat} (hd' : oper.dst = some d) (hdm : d ∉ mn) (hdo : getO s.o d = none)
    (hc : AgR (getO s.o) ρ w (BO X (getO s.o) ρ) ls cs.toList)
    (hr : (execOp a.eval oper).run P w = .ok (.value (.pointer (some ⟨w.heap.size, 0, none⟩))) (w.alloc (.cells cs e))) :
    Does P X w0 ρ0 mn nt s ⟨.l (.ptr d 0 0), [(d, some (.box e ls))], []⟩ oper a w := by
  refine does_of_inv hr (ρ' := fun n => if n = d then some (w.heap.size, 0) else ρ n) ?_
  rw [app_nofrz, hd']
  refine Inv.put (h.new (w' := w.alloc (.cells cs e)) d (.box e ls) w.heap.size 0 hdo hdm rfl rfl rfl (by show w.heap.size ≤ (w.heap.push _).size; simp) (Nat.le_refl _) (fun k hk => heap_alloc_old w _ k hk) fun B' _ hext hk => ?_)
    (some d) (by rintro _ ⟨⟩; exact hd d hd') ?_
  · exact ⟨w.heap.size, 0, cs, by simp, heap_alloc_new w _, hc.ext hext hk⟩
  · simp only [VR, LR, List.singleton_append, getO_cons, if_true]
    exact ⟨rfl, w.heap.size, 0, rfl, rfl⟩
theorem AgR_zero {o : Look} {B : Nat → Prop} {z : List Value} (h : ∀ v ∈ z, v.oneCell' = true) : AgR o ρ w B (zeroLeaves z) z := by
  refine ⟨by simp [zeroLeaves], fun j x c hx hc => ?_⟩
  rw [zeroLeaves, List.getElem?_map, hc] at hx
  cases hx
  exact ⟨ofLeaf_rel _ _ _ _ c, h c (List.mem_of_getElem? hc)⟩
/-- the cells of a value by its leaves -/
theorem leavesV_rel {o : Look} {B : Nat → Prop} {v : V} {u : Value} {ls : List L} (hl : leavesV v = some ls) (hu : ls.any L.isUn = false) (hv : VR o ρ w B v u) : AgR o ρ w B ls u.cells.toList := by
  cases v with
  | l x =>
    simp only [leavesV] at hl
    cases hl
    have hx : x.isUn = false := by simpa using hu
    have h1 := LR.one hx hv
    have hc : u.cells = #[u] := by cases u <;> first | rfl | simp [Value.oneCell'] at h1
    rw [hc]
    refine ⟨rfl, fun j y c hy hc => ?_⟩
    match j, hy, hc with
    | 0, hy, hc => cases hy; cases hc; exact ⟨hv, h1⟩
    | j + 1, hy, hc => simp at hy
  | agg xs =>
    simp only [leavesV] at hl
    cases hl
    obtain ⟨cs, rfl, hc⟩ := hv
    exact hc
  | tup vs => simp [leavesV] at hl
/-- a new row out of its cells -/
theorem does_row {ids : List Nat} (h : Inv X w0 ρ0 mn nt (frzIds s ids) ρ a w) (hd : ∀ d, oper.dst = some d → d < nt) {e : TypeId} {t : Ty} {xs : List t.den} {cs : Array Value} {d : Nat} (hd' : oper.dst = some d) (hdm : d ∉ mn) (hdo : getO (frzIds s ids).o d = none)
    (hf : FlatR w (BO X (getO (frzIds s ids).o) ρ) t xs cs.toList) (hm : xs.length ≤ maxLen)
    (hr : (execOp a.eval oper).run P w = .ok (.value (.slice (some ⟨w.heap.size, 0, none⟩) xs.length xs.length)) (w.alloc (.cells cs e))) :
    Does P X w0 ρ0 mn nt s ⟨.l (.rw d none), [(d, some (.row e t xs))], ids⟩ oper a w := by
  refine does_of_inv hr (ρ' := fun n => if n = d then some (w.heap.size, xs.length) else ρ n) ?_
  show Inv X w0 ρ0 mn nt (St.put ⟨(frzIds s ids).t, [(d, some (.row e t xs))] ++ (frzIds s ids).o⟩ oper.dst _) _ _ _
  rw [hd']
  refine Inv.put (h.new (w' := w.alloc (.cells cs e)) d (.row e t xs) w.heap.size xs.length hdo hdm rfl rfl rfl (by show w.heap.size ≤ (w.heap.push _).size; simp) (Nat.le_refl _) (fun k hk => heap_alloc_old w _ k hk) fun B' _ hext hk => ?_)
    (some d) (by rintro _ ⟨⟩; exact hd d hd') (VR_new (s := s) _ ?_)
  · exact grown_row h hf e xs.length (Nat.le_refl _) hm hk d (by simp) (heap_alloc_new w _) (by rw [← Array.length_toList (xs := cs)]; exact hf.1) (by rw [← hf.1]; exact List.take_length)
  · simp only [if_true]
    exact ⟨rfl, Nat.le_refl _⟩
theorem getO_frzIds_none (d : Nat) : ∀ (ids : List Nat) (s : St), getO s.o d = none → getO (frzIds s ids).o d = none
  | [], _, h => h
  | id :: r, s, h => by
    refine getO_frzIds_none d r (s.frz id) ?_
    by_cases e : d = id
    · subst e
      unfold St.frz
      rw [h]
      exact h
    · rcases frz_look s id d e with h2 | ⟨_, _, _, h2, _⟩
      · rw [h2]; exact h
      · rw [h] at h2; cases h2
end
end Go.Pm

set_option linter.unusedVariables false
set_option linter.unusedSimpArgs false
namespace Go.Pm
open Go.RowKit

theorem seg_get {α : Type} (l n : List α) (p m : Nat) (h : p + n.length ≤ l.length) : (l.take p ++ n ++ l.drop (p + n.length))[m]? = if p ≤ m ∧ m < p + n.length then n[m - p]? else l[m]? := by
  have hp : (l.take p).length = p := by simp; omega
  by_cases h1 : m < p
  · rw [if_neg (by omega), List.append_assoc, List.getElem?_append_left (by omega), List.getElem?_take, if_pos h1]
  · by_cases h2 : m < p + n.length
    · rw [if_pos ⟨by omega, h2⟩, List.append_assoc, List.getElem?_append_right (by omega), hp, List.getElem?_append_left (by omega)]
    · rw [if_neg (by omega), List.getElem?_append_right (by simp; omega), List.getElem?_drop]
      congr 1
      simp
      omega
section
variable {P : Program} {X : Nat → Prop} {w0 : World} {ρ0 : P0} {mn : List Nat} {nt : Nat} {s : St} {ρ : Pl} {a : Act} {w : World} {oper : Oper}
theorem run_storeAt {t : TypeId} {i : TypeInfo} {n : Nat} (hi : P.info? t = some i) (hs : i.size = n) {g p : Nat} {cur : Array Value} {e : TypeId} (hh : w.heap[g]? = some (.cells cur e (0, 0))) {u : Value}
    (hu : u.cells.size = n) (h1 : ∀ c ∈ u.cells.toList, c.oneCell' = true) (hp : p + n ≤ cur.size) :
    (Instr.storeAt t (.pointer (some ⟨g, p, none⟩)) u).run P w = .ok () (w.setRow g (cur.toList.take p ++ u.cells.toList ++ cur.toList.drop (p + u.cells.toList.length)).toArray) := by
  have hst := run_storeCells_at P g p e u.cells.toList 0 cur w hh (by simp [hu]; omega) h1
  simp only [Nat.add_zero] at hst
  have hne : ¬ (u.cells.size ≠ n) := by rw [hu]; simp
  simp only [Instr.storeAt, Instr.sureAddr, storeVar, Sem.run_bind, Sem.run_pure, Result.andThen_ok, run_sizeOf hi, hs, Sem.run_ite, if_neg hne, hst]
theorem does_store_run {e : Eff} {w' : World} {t : TypeId} {x y : Operand} (ho : oper.op = .store t x y)
    (hr : (Instr.storeAt t (a.eval x) (a.eval y)).run P w = .ok () w') (hI : ∃ ρ', Inv X w0 ρ0 mn nt (s.app oper.dst e) ρ' (a.put oper.dst undef) w') : Does P X w0 ρ0 mn nt s e oper a w := by
  intro Q
  unfold Oper.wp execOp
  simp only [ho, Sem.run_bind, hr, Result.andThen_ok, Sem.run_pure]
  exact hI
/-- a box's cells are written -/
theorem AgR_set {o : Look} {B : Nat → Prop} {ls new : List L} {cs : List Value} {us : List Value} {f : Nat} (h : AgR o ρ w B ls cs) (hn : AgR o ρ w B new us) (hf : f + new.length ≤ ls.length) :
    AgR o ρ w B (setAt ls f new) (cs.take f ++ us ++ cs.drop (f + us.length)) := by
  have hl := hn.1
  have hcl := h.1
  have hseg : ∀ m, (setAt ls f new)[m]? = if f ≤ m ∧ m < f + new.length then new[m - f]? else ls[m]? := fun m => seg_get ls new f m hf
  refine ⟨?_, fun j x c hx hc => ?_⟩
  · simp only [setAt, List.length_append, List.length_take, List.length_drop]
    omega
  · rw [hseg] at hx
    rw [seg_get cs us f j (by omega)] at hc
    rw [hl] at hc
    by_cases hj : f ≤ j ∧ j < f + new.length
    · rw [if_pos hj] at hx hc
      exact hn.2 _ x c hx hc
    · rw [if_neg hj] at hx hc
      exact h.2 j x c hx hc
/-- an element of a row is written, in part or whole -/
theorem row_set {w' : World} {B : Nat → Prop} {t : Ty} {xs : List t.den} {g i p : Nat} {cur : Array Value} {e : TypeId} {us : List Value} {x : t.den}
    (hE : ∀ k (h : k < xs.length), ElR w' B t xs[k] (fun j => cur.toList[k * t.sz + j]?)) (hi : i < xs.length)
    (hw : w'.heap[g]? = some (.cells (cur.toList.take p ++ us ++ cur.toList.drop (p + us.length)).toArray e (0, 0))) (hlo : i * t.sz ≤ p) (hhi : p + us.length ≤ i * t.sz + t.sz) (hcur : p + us.length ≤ cur.size)
    (hx : ElR w' B t x (fun j => if p ≤ i * t.sz + j ∧ i * t.sz + j < p + us.length then us[i * t.sz + j - p]? else cur.toList[i * t.sz + j]?)) :
    ∀ k (h : k < (xs.set i x).length), ElR w' B t (xs.set i x)[k] (fun j => w'.cell? ⟨g, k * t.sz + j, none⟩) := by
  intro k hk
  have hcell : ∀ m, w'.cell? ⟨g, m, none⟩ = if p ≤ m ∧ m < p + us.length then us[m - p]? else cur.toList[m]? := by
    intro m
    rw [← seg_get cur.toList us p m (by simpa using hcur)]
    simp [World.cell?, hw]
  rw [List.getElem_set]
  split
  · rename_i e1
    subst e1
    exact hx.congr fun j _ => hcell _
  · rename_i e1
    have hk' : k < xs.length := by simpa using hk
    refine (hE k hk').congr fun j hj => ?_
    rw [hcell, if_neg]
    rintro ⟨h1, h2⟩
    rcases Nat.lt_or_ge k i with h3 | h3
    · have := ix_lt (sz := t.sz) h3 hj
      omega
    · have h4 : i + 1 ≤ k := by omega
      have h5 := Nat.mul_le_mul_right t.sz h4
      rw [Nat.add_mul, Nat.one_mul] at h5
      omega
theorem cell_cur {w : World} {g : Nat} {cur : Array Value} {e : TypeId} (hh : w.heap[g]? = some (.cells cur e (0, 0))) (m : Nat) : w.cell? ⟨g, m, none⟩ = cur.toList[m]? := by simp [World.cell?, hh]

theorem does_store (h : Inv X w0 ρ0 mn nt s ρ a w) (hd : ∀ d, oper.dst = some d → d < nt) {t : TypeId} {td : TD} (htd : chkTD P t td = true) {x y : Operand}
    (ho : oper.op = .store t x y) {ef : Eff} (he : pmStore td (getO s.o) (s.ev x) (s.ev y) some = some ef) : Does P X w0 ρ0 mn nt s ef oper a w := by
  have hx := h.ev x
  have hy := h.ev y
  unfold pmStore at he
  split at he
  case h_2 => cases he
  rename_i id i f hvx
  rw [hvx] at hx
  split at he
  · -- a box
    rename_i e ls hid
    split at he
    case h_2 => cases he
    rename_i new hnew
    obtain ⟨hcnd, he1⟩ := cond_some he
    cases he1
    simp only [Bool.and_eq_true, Bool.not_eq_true'] at hcnd
    obtain ⟨⟨⟨c1, c2⟩, c3⟩, c4⟩ := hcnd
    have c1 := Nat.eq_of_beq_eq_true c1
    have c2 := Nat.le_of_ble_eq_true c2
    have c3 := Nat.le_of_ble_eq_true c3
    obtain ⟨ti, _, hi, hs, _, _, _, _⟩ := okCells htd (TD.ne_other (by intro hn; rw [hn] at c1; simp only [List.length_nil] at c1; omega))
    simp only [VR, LR, hid] at hx
    obtain ⟨rfl, g, c, hg, hax⟩ := hx
    obtain ⟨g', c', cur, hg', hh, hag⟩ := h.rel.ob id _ hid
    rw [hg] at hg'
    cases hg'
    have hnr := leavesV_rel hnew c4 hy
    have hul : (a.eval y).cells.toList.length = new.length := hnr.1
    have hone : ∀ v ∈ (a.eval y).cells.toList, v.oneCell' = true := by
      intro v hv
      obtain ⟨j, hj⟩ := List.getElem?_of_mem hv
      have hlt : j < new.length := by
        rcases Nat.lt_or_ge j new.length with h | h
        · exact h
        · rw [List.getElem?_eq_none (by omega)] at hj; cases hj
      exact (hnr.2 j _ v (List.getElem?_eq_getElem hlt) hj).2
    have hcl : cur.size = ls.length := by have := hag.1; simpa using this
    have hsz : (a.eval y).cells.size = td.cells.length := by rw [← c1, ← hul]; simp
    have hr := run_storeAt (P := P) hi hs hh hsz hone (p := f) (by omega)
    refine does_store_run ho (by rw [hax]; exact hr) ⟨ρ, ?_⟩
    rw [app_nofrz]
    refine Inv.put (h.upd (w' := w.setRow g _) id (.box e ls) (.box e (setAt ls f new)) g c hid hg (by trivial) rfl rfl rfl (by simp [World.setRow]) (fun k hk => setRow_other w g k _ hk) fun hext hkeep _ => ?_) oper.dst hd trivial
    refine ⟨g, c, _, hg, setRow_heap w g cur _ e _ hh, ?_⟩
    simp only [List.toList_toArray]
    exact AgR_set (hag.ext hext hkeep) (hnr.ext hext hkeep) c3
  · -- a row
    rename_i e τ xs hid
    simp only [VR, LR, hid] at hx
    obtain ⟨h0, h1, g, c, hg, hax⟩ := hx
    have hob := h.rel.ob id _ hid
    simp only [OR, hg] at hob
    obtain ⟨cur, hh, hlc, hcm, hcs, hE⟩ := hob
    have hin : i.toNat < xs.length := by omega
    have hE' : ∀ k (h : k < xs.length), ElR w (BO X (getO s.o) ρ) τ xs[k] (fun j => cur.toList[k * τ.sz + j]?) := by
      intro k hk
      exact (hE k hk).congr fun j _ => (cell_cur hh _).symm
    have hspan : i.toNat * τ.sz + τ.sz ≤ cur.size := by
      rw [hcs]
      have h5 := Nat.mul_le_mul_right τ.sz (show i.toNat + 1 ≤ c by omega)
      rw [Nat.add_mul, Nat.one_mul] at h5
      exact h5
    have hatD : ∀ d, atD d xs i = xs[i.toNat] := fun d => by simp [atD, List.getD_eq_getElem?_getD, List.getElem?_eq_getElem hin]
    -- one written segment of the row
    have seg : ∀ (s' : St) (hI : Inv X w0 ρ0 mn nt s' ρ a w) (hid' : getO s'.o id = some (some (.row e τ xs))) (hEs : ∀ k (h : k < xs.length), ElR w (BO X (getO s'.o) ρ) τ xs[k] (fun j => cur.toList[k * τ.sz + j]?))
        (x' : τ.den) (n : Nat) (hsz : (a.eval y).cells.size = n) (hone : ∀ v ∈ (a.eval y).cells.toList, v.oneCell' = true) (hf : f + n ≤ τ.sz) (htn : td.cells.length = n) (h0n : 0 < n)
        (hx' : ElR w (BO X (getO s'.o) ρ) τ x' (fun j => if i.toNat * τ.sz + f ≤ i.toNat * τ.sz + j ∧ i.toNat * τ.sz + j < i.toNat * τ.sz + f + n then (a.eval y).cells.toList[i.toNat * τ.sz + j - (i.toNat * τ.sz + f)]? else cur.toList[i.toNat * τ.sz + j]?)),
        ∃ w', (Instr.storeAt t (a.eval x) (a.eval y)).run P w = .ok () w' ∧ Inv X w0 ρ0 mn nt ⟨s'.t, (id, some (.row e τ (xs.set i.toNat x'))) :: s'.o⟩ ρ a w' := by
      intro s' hI hid' hEs x' n hsz hone hf htn h0n hx'
      obtain ⟨ti, _, hi, hs, _, _, _, _⟩ := okCells htd (TD.ne_other (by intro hn; rw [hn] at htn; simp only [List.length_nil] at htn; omega))
      have hr := run_storeAt (P := P) hi (by rw [hs, htn]) hh hsz hone (p := i.toNat * τ.sz + f) (by omega)
      refine ⟨_, by rw [hax]; exact hr, ?_⟩
      have hlen : (a.eval y).cells.toList.length = n := by simpa using hsz
      refine hI.upd (w' := w.setRow g _) id (.row e τ xs) (.row e τ (xs.set i.toNat x')) g c hid' hg ⟨rfl, rfl, by simp⟩ rfl rfl rfl (by simp [World.setRow]) (fun k hk => setRow_other w g k _ hk) fun hext hkeep _ => ?_
      simp only [OR, hg]
      refine ⟨_, setRow_heap w g cur _ e _ hh, by simpa using hlc, hcm, ?_, ?_⟩
      · simp only [List.size_toArray, List.length_append, List.length_take, List.length_drop, Array.length_toList (xs := cur)]
        rw [hlen]
        omega
      · refine row_set (fun k hk => (hEs k hk).keep hkeep) hin (setRow_heap w g cur _ e _ hh) (by omega) (by rw [hlen]; omega) (by rw [hlen]; omega) ?_
        exact (hx'.keep hkeep).congr fun j _ => by rw [hlen]
    split at he
    · -- the first number
      rename_i xs n hvy
      obtain ⟨hc1, he1⟩ := cond_some he
      cases he1
      have hc1 := Nat.eq_of_beq_eq_true hc1
      rw [hvy] at hy
      obtain ⟨hy1, _⟩ := VR_p hy
      have hold := hE' i.toNat hin
      obtain ⟨w', hr, hI⟩ := seg s h hid hE' (n, (xs[i.toNat]).2) 1 (by rw [hy1]; rfl) (by rw [hy1]; simp [Value.cells, Value.oneCell']) (by decide) hc1 (by omega) (by
        have h2 : cur.toList[i.toNat * 2 + 1]? = some (.int .i64 (xs[i.toNat]).2) := hold.2
        constructor
        · simp [Ty.sz, hy1, Value.cells]
        · simp only [Ty.sz]
          exact (if_neg (show ¬ (i.toNat * 2 + 0 ≤ i.toNat * 2 + 1 ∧ i.toNat * 2 + 1 < i.toNat * 2 + 0 + 1) by omega)).trans h2)
      refine does_store_run ho hr ⟨ρ, ?_⟩
      rw [app_nofrz, hatD]
      exact Inv.put hI oper.dst hd trivial
    · -- the second number
      rename_i xs n hvy
      obtain ⟨hc1, he1⟩ := cond_some he
      cases he1
      have hc1 := Nat.eq_of_beq_eq_true hc1
      rw [hvy] at hy
      obtain ⟨hy1, _⟩ := VR_p hy
      have hold := hE' i.toNat hin
      obtain ⟨w', hr, hI⟩ := seg s h hid hE' ((xs[i.toNat]).1, n) 1 (by rw [hy1]; rfl) (by rw [hy1]; simp [Value.cells, Value.oneCell']) (by decide) hc1 (by omega) (by
        have h1 : cur.toList[i.toNat * 2 + 0]? = some (.int .i64 (xs[i.toNat]).1) := hold.1
        constructor
        · simp only [Ty.sz]
          exact (if_neg (show ¬ (i.toNat * 2 + 1 ≤ i.toNat * 2 + 0 ∧ i.toNat * 2 + 0 < i.toNat * 2 + 1 + 1) by omega)).trans h1
        · simp [Ty.sz, hy1, Value.cells])
      refine does_store_run ho hr ⟨ρ, ?_⟩
      rw [app_nofrz, hatD]
      exact Inv.put hI oper.dst hd trivial
    · -- a whole element
      rename_i τ xs t2 xs2 v hn1 hn2
      split at he
      case h_2 => cases he
      rename_i x' hx'
      obtain ⟨hc1, he1⟩ := cond_some he
      cases he1
      simp only [Bool.and_eq_true, Bool.not_eq_true'] at hc1
      have hc2 := Nat.eq_of_beq_eq_true hc1.1
      have hnid : id ∉ rwIds (s.ev y) := by
        intro hm
        have := hc1.2
        simp [hm] at this
      obtain ⟨hsz, hone, hel⟩ := toDen_flat h hx' hy (rwIds (s.ev y)) (fun _ h => h)
      have hrow : ∀ (ids : List Nat) (s : St), getO s.o id = some (some (.row e τ xs)) → id ∉ ids → getO (frzIds s ids).o id = some (some (.row e τ xs)) := by
        intro ids
        induction ids with
        | nil => intro s h _; exact h
        | cons k r ih =>
          intro s hs hk
          simp only [List.mem_cons, not_or] at hk
          refine ih (s.frz k) ?_ hk.2
          rcases frz_look s k id hk.1 with h2 | ⟨_, _, _, h2, _⟩
          · rw [h2]; exact hs
          · rw [hs] at h2; cases h2
      have hkz := keep_frzIds (X := X) w ρ (rwIds (s.ev y)) s
      obtain ⟨w', hr, hI⟩ := seg (frzIds s (rwIds (s.ev y))) (h.frzIds _) (hrow _ s hid hnid) (fun k hk => (hE' k hk).keep hkz) x' τ.sz hsz hone (by omega) hc2 τ.sz_pos (hel.congr fun j hj => by
        rw [if_pos ⟨by omega, by omega⟩]
        have : i.toNat * τ.sz + j - (i.toNat * τ.sz + 0) = j := by omega
        rw [this]
        simp)
      refine does_store_run ho hr ⟨ρ, ?_⟩
      exact Inv.put hI oper.dst hd trivial
    · cases he
  · cases he
end
end Go.Pm

set_option linter.unusedVariables false
set_option linter.unusedSimpArgs false
namespace Go.Pm
open Go.RowKit

section
variable {P : Program} {X : Nat → Prop} {w0 : World} {ρ0 : P0} {mn : List Nat} {nt : Nat} {s : St} {ρ : Pl} {a : Act} {w : World} {oper : Oper}
theorem madeCells_get (z : Array Value) (n k : Nat) (h : k < n) : (madeCells z n)[k]? = some (z[k % z.size]!) := by simp [madeCells, h]
theorem ElR_dflt (B : Nat → Prop) : ∀ (t : Ty), ElR w B t t.dflt (fun j => t.zero.cells[j]?)
  | .int _ => rfl
  | .bool => rfl
  | .str => rfl
  | .ii => ⟨rfl, rfl⟩
  | .sl t => ⟨_, rfl, none, 0, 0, rfl, rfl, by simp, Nat.le_refl _, fun h => by omega⟩
theorem does_make (h : Inv X w0 ρ0 mn nt s ρ a w) (hd : ∀ d, oper.dst = some d → d < nt) {t e : TypeId} {τ : Ty} (htd : chkTD P t (.slice e τ) = true) {x y : Operand} {kl kc : IntKind} {n : Int} {d : Nat}
    (ho : oper.op = .makeSlice t x y) (hx : a.eval x = .int kl n) (hy : a.eval y = .int kc n) (h0 : 0 ≤ n) (h1 : n ≤ (τ.lim : Int)) (hd' : oper.dst = some d) (hdm : d ∉ mn) (hdo : getO s.o d = none) :
    Does P X w0 ρ0 mn nt s ⟨.l (.rw d none), [(d, some (.row e τ (elemDflt τ n)))], []⟩ oper a w := by
  obtain ⟨hu, hel, _⟩ := okSlice htd
  obtain ⟨i, dd, hi, hz, hsz, hby, hdu, hda⟩ := okEl hel
  obtain ⟨hb1, hb2⟩ := τ.lim_bytes (n := n.toNat) (by omega)
  have hbb : (i.bytes : Int) * n ≤ 281474976710656 := by
    rw [hby]
    have : ((n.toNat * τ.bytes : Nat) : Int) ≤ 140737488355328 := by omega
    rw [Int.natCast_mul, Int.toNat_of_nonneg h0, Int.mul_comm] at this
    omega
  have hr := run_make (P := P) w t e i τ.zero hu hi hz kl kc n n h0 (Int.le_refl _) hbb (by simp only [maxLen] at hb2; omega)
  have hlen : (elemDflt τ n).length = n.toNat := by simp [elemDflt]
  have hzs := zero_size τ
  refine does_row (ids := []) h hd hd' hdm hdo (cs := madeCells τ.zero.cells (n.toNat * i.size)) ?_ (by rw [hlen]; exact hb2) ?_
  · refine ⟨by rw [Array.length_toList (xs := madeCells _ _), size_madeCells, hsz, hlen], ?_, ?_⟩
    · intro v hv
      obtain ⟨k, hk⟩ := List.getElem?_of_mem hv
      rw [Array.getElem?_toList] at hk
      have hlt : k < n.toNat * i.size := by
        rcases Nat.lt_or_ge k (n.toNat * i.size) with h | h
        · exact h
        · rw [Array.getElem?_eq_none (by rw [size_madeCells]; exact h)] at hk; cases hk
      rw [madeCells_get _ _ _ hlt] at hk
      cases hk
      have hm : k % τ.zero.cells.size < τ.zero.cells.size := Nat.mod_lt _ (by rw [hzs]; exact τ.sz_pos)
      obtain ⟨u, hu1, hu2⟩ := (ElR_dflt (w := w) (fun _ => False) τ).some (k % τ.zero.cells.size) (by rw [← hzs]; exact hm)
      rw [Array.getElem?_eq_getElem hm] at hu1
      rw [getElem!_pos τ.zero.cells (k % τ.zero.cells.size) hm]
      cases hu1
      exact hu2
    · intro k hk
      rw [hlen] at hk
      have e1 : (elemDflt τ n)[k]'(by rw [hlen]; exact hk) = τ.dflt := by simp [elemDflt]
      rw [e1]
      refine (ElR_dflt _ τ).congr fun j hj => ?_
      rw [Array.getElem?_toList, madeCells_get _ _ _ (by rw [hsz]; exact ix_lt hk hj)]
      have : (k * τ.sz + j) % τ.zero.cells.size = j := by
        rw [hzs, Nat.add_comm, Nat.add_mul_mod_self_right, Nat.mod_eq_of_lt hj]
      rw [this]
      have hj' : j < τ.zero.cells.size := by rw [hzs]; exact hj
      rw [getElem!_pos τ.zero.cells j hj', Array.getElem?_eq_getElem hj']
  · unfold execOp
    simp only [ho, hx, hy, Sem.run_bind, hr, Result.andThen_ok, Sem.run_pure, hlen]

/-- the parts of a slice literal -/
theorem parts_flat (h : Inv X w0 ρ0 mn nt s ρ a w) {t : Ty} (ids : List Nat) : ∀ (ps : List (Nat × Operand)) (i : Nat) (xs : List t.den), partsVals s.ev t (getO s.o) i ps = some xs → (∀ p ∈ ps, ∀ id ∈ rwIds (s.ev p.2), id ∈ ids) →
    xs.length = ps.length ∧ (ps.map fun p => (p.1, a.eval p.2)) = ((ps.map fun p => a.eval p.2).zipIdx i).map (fun x => (x.2, x.1)) ∧ (∀ v ∈ ps.map fun p => a.eval p.2, v.cells.size = t.sz) ∧
      FlatR w (BO X (getO (frzIds s ids).o) ρ) t xs ((ps.map fun p => a.eval p.2).flatMap fun v => v.cells.toList)
  | [], i, xs, hp, _ => by
    simp only [partsVals] at hp
    cases hp
    exact ⟨rfl, rfl, by simp, flat_nil _ _ _⟩
  | (j, x) :: r, i, xs, hp, hids => by
    simp only [partsVals] at hp
    obtain ⟨hij, hp1⟩ := cond_some hp
    have hij := Nat.eq_of_beq_eq_true hij
    subst hij
    split at hp1
    · rename_i y ys hy hys
      cases hp1
      obtain ⟨h1, h2, h3, h4⟩ := parts_flat h ids r (i + 1) ys hys (fun p hp => hids p (List.mem_cons_of_mem _ hp))
      obtain ⟨hsz, hone, hel⟩ := toDen_flat h hy (h.ev x) ids (hids _ List.mem_cons_self)
      have hone1 : FlatR w (BO X (getO (frzIds s ids).o) ρ) t [y] (a.eval x).cells.toList := by
        refine ⟨by simp [hsz], hone, fun k hk => ?_⟩
        have hk0 : k = 0 := by simpa using hk
        subst hk0
        refine hel.congr fun j _ => by simp
      refine ⟨by simp [h1], ?_, ?_, ?_⟩
      · simp only [List.map_cons, List.zipIdx_cons, h2]
      · intro v hv
        simp only [List.map_cons, List.mem_cons] at hv
        rcases hv with rfl | hv
        · exact hsz
        · exact h3 v hv
      · simp only [List.map_cons, List.flatMap_cons]
        exact hone1.append h4
    · cases hp1
theorem does_slit (h : Inv X w0 ρ0 mn nt s ρ a w) (hd : ∀ d, oper.dst = some d → d < nt) {t e : TypeId} {τ : Ty} (htd : chkTD P t (.slice e τ) = true) {n : Nat} {ps : Array (Nat × Operand)} {d : Nat}
    (ho : oper.op = .buildSlice t n ps) (hn : n = ps.size) (h64 : n ≤ 64) {xs : List τ.den} (hxs : partsVals s.ev τ (getO s.o) 0 ps.toList = some xs) (ids : List Nat) (hids : ∀ p ∈ ps.toList, ∀ id ∈ rwIds (s.ev p.2), id ∈ ids)
    (hd' : oper.dst = some d) (hdm : d ∉ mn) (hdo : getO s.o d = none) :
    Does P X w0 ρ0 mn nt s ⟨.l (.rw d none), [(d, some (.row e τ xs))], ids⟩ oper a w := by
  obtain ⟨hu, hel, _⟩ := okSlice htd
  obtain ⟨i, dd, hi, hz, hsz, hby, hdu, hda⟩ := okEl hel
  obtain ⟨h1, h2, h3, h4⟩ := parts_flat h ids ps.toList 0 xs hxs hids
  have hps : ps.toList.length = n := by rw [hn]; simp
  have hlen : xs.length = n := by rw [h1, hps]
  have hs2 : τ.sz ≤ 2 := by cases τ <;> simp [Ty.sz]
  have hmul : n * τ.sz ≤ 64 * 2 := Nat.mul_le_mul h64 hs2
  have hml : n ≤ maxLen := by simp only [maxLen]; omega
  refine does_row (ids := ids) (h.frzIds ids) hd hd' hdm (getO_frzIds_none d ids s hdo) (cs := ((ps.toList.map fun p => a.eval p.2).flatMap fun v => v.cells.toList).toArray) ?_ (by rw [hlen]; exact hml) ?_
  · simpa using h4
  · have hmap : (ps.map fun x => (x.1, a.eval x.2)).toList = ((ps.toList.map fun p => a.eval p.2).zipIdx 0).map (fun x => (x.2, x.1)) := by rw [Array.toList_map]; exact h2
    by_cases h0 : n = 0
    · subst h0
      have hpe : ps = #[] := Array.eq_empty_of_size_eq_zero hn.symm
      subst hpe
      unfold execOp
      simp only [ho, Sem.run_bind]
      have hr : (Instr.buildSlice t 0 #[]).run P w = .ok (.slice (some ⟨w.heap.size, 0, none⟩) 0 0) (w.alloc (.cells #[] e)) := by
        simp [Instr.buildSlice, run_underlying hu, sizeOf, typeInfo, hi, newRow, Instr.fill, Array.range_zero']
      have he : (Array.map (fun (x : Nat × Operand) => (x.1, a.eval x.2)) #[]) = #[] := by simp
      rw [he, hr, hlen]
      rfl
    · have hf := Great.fill_whole τ.sz_pos (ps.toList.map fun p => a.eval p.2) ((Array.range (n * i.size)).map (τ.zero.cells[· % τ.zero.cells.size]!)) h3 (by simp [hps, hsz])
      have hr := run_buildSlice (P := P) w t e n (ps.map fun x => (x.1, a.eval x.2)) _ i τ.zero hu hi hz (by rw [hsz]; omega) (by rw [hsz]; have := τ.sz_pos; intro hc; rcases Nat.mul_eq_zero.1 hc with h | h <;> omega) (by rw [hmap, hsz]; rw [hsz] at hf; exact hf)
      unfold execOp
      simp only [ho, Sem.run_bind]
      rw [hr, hlen]
      rfl

/-- the fields of a struct value -/
theorem fill_leaves (h : Inv X w0 ρ0 mn nt s ρ a w) {offs : List (Nat × Nat)} : ∀ (ps : List (Nat × Operand)) (ls ls' : List L) (cs : Array Value), fillLeaves s.ev offs ls ps = some ls' → AgR (getO s.o) ρ w (BO X (getO s.o) ρ) ls cs.toList →
    ∃ cs', Instr.fill (offs[·]?) cs (ps.map fun p => (p.1, a.eval p.2)) = some cs' ∧ AgR (getO s.o) ρ w (BO X (getO s.o) ρ) ls' cs'.toList
  | [], ls, ls', cs, hf, hc => by
    simp only [fillLeaves] at hf
    cases hf
    exact ⟨cs, rfl, hc⟩
  | (j, x) :: r, ls, ls', cs, hf, hc => by
    simp only [fillLeaves] at hf
    split at hf
    · rename_i f n new hj hnew
      obtain ⟨hcd, hf1⟩ := cond_some hf
      simp only [Bool.and_eq_true, Bool.not_eq_true'] at hcd
      obtain ⟨⟨c1, c2⟩, c3⟩ := hcd
      have c1 := Nat.eq_of_beq_eq_true c1
      have c2 := Nat.le_of_ble_eq_true c2
      have hnr := leavesV_rel hnew c3 (h.ev x)
      have hul : (a.eval x).cells.toList.length = new.length := hnr.1
      have hus : (a.eval x).cells.size = n := by rw [← c1, ← hul]; simp
      have hcl : cs.size = ls.length := by have := hc.1; simpa using this
      obtain ⟨g1, g2⟩ := Great.foldl_set f (a.eval x).cells.toList 0 cs
      have hset := AgR_set hc hnr c2
      have hee : ((a.eval x).cells.zipIdx.foldl (fun cs (c, k) => cs.setIfInBounds (f + k) c) cs).toList = cs.toList.take f ++ (a.eval x).cells.toList ++ cs.toList.drop (f + (a.eval x).cells.toList.length) := by
        have e0 : (a.eval x).cells.zipIdx.foldl (fun cs (c, k) => cs.setIfInBounds (f + k) c) cs = ((a.eval x).cells.toList.zipIdx 0).foldl (fun cs (y : Value × Nat) => cs.setIfInBounds (f + y.2) y.1) cs := by
          rw [← Array.foldl_toList, Array.toList_zipIdx]
        rw [e0]
        apply List.ext_getElem?
        intro k
        rw [Array.getElem?_toList, g2 k, seg_get _ _ _ _ (by rw [hul, Array.length_toList (xs := cs), hcl]; exact c2), Nat.add_zero, Array.getElem?_toList]
        by_cases hk : f ≤ k ∧ k < f + (a.eval x).cells.toList.length
        · rw [if_pos hk, if_pos ⟨hk.1, hk.2, by omega⟩]
        · rw [if_neg hk, if_neg (fun h => hk ⟨h.1, h.2.1⟩), Array.getElem?_toList]
      obtain ⟨cs', h1, h2⟩ := fill_leaves h r (setAt ls f new) ls' ((a.eval x).cells.zipIdx.foldl (fun cs (c, k) => cs.setIfInBounds (f + k) c) cs) hf1 (by rw [hee]; exact hset)
      refine ⟨cs', ?_, h2⟩
      simp only [List.map_cons, Instr.fill, hj, hus]
      rw [if_neg (by simp; omega)]
      exact h1
    · cases hf
theorem mapM_places {fs : List Field} {offs : List (Nat × Nat)} (h : ∀ (k f n : Nat), offs[k]? = some (f, n) → ∃ fl j, fs[k]? = some fl ∧ fl.offset = f ∧ P.info? fl.type = some j ∧ j.size = n ∧ n ≠ 0) (hl : fs.length = offs.length) :
    fs.mapM (fun f => (P.info? f.type).map fun i => (f.offset, i.size)) = some offs := by
  induction fs generalizing offs with
  | nil =>
    have : offs = [] := List.eq_nil_of_length_eq_zero (by simpa using hl.symm)
    subst this; rfl
  | cons fl r ih =>
    cases offs with
    | nil => simp at hl
    | cons o os =>
      obtain ⟨f, n⟩ := o
      obtain ⟨fl', j, e1, e2, e3, e4, _⟩ := h 0 f n rfl
      cases e1
      have := ih (offs := os) (fun k f n hk => by
        obtain ⟨fl', j, e1, e2⟩ := h (k + 1) f n hk
        exact ⟨fl', j, by simpa using e1, e2⟩) (by simpa using hl)
      simp only [List.mapM_cons, e3, Option.map_some, this, e2, e4]
      rfl
theorem does_lit (h : Inv X w0 ρ0 mn nt s ρ a w) (hd : ∀ d, oper.dst = some d → d < nt) {t : TypeId} {td : TD} (htd : chkTD P t td = true) (hag : td.isAgg = true) {ps : Array (Nat × Operand)}
    (ho : oper.op = .build t ps) {ls : List L} (hls : fillLeaves s.ev td.offs (zeroLeaves td.cells) ps.toList = some ls) : Does P X w0 ρ0 mn nt s ⟨.agg ls, [], []⟩ oper a w := by
  obtain ⟨fs, i, hu, hi, hz, hx⟩ := okOffs htd hag
  obtain ⟨_, _, _, _, _, _, hone, _⟩ := okCells htd (by rintro rfl; cases hag)
  obtain ⟨cs', h1, h2⟩ := fill_leaves h ps.toList (zeroLeaves td.cells) ls td.cells.toArray hls (by simpa using AgR_zero hone)
  have hlen : fs.toList.length = td.offs.length := by
    cases td with
    | struct offs z =>
      obtain ⟨_, _, fs', hu', he, _⟩ := okStruct htd
      rw [hu] at hu'
      cases hu'
      rw [TD.offs, ← he]; simp
    | ii =>
      obtain ⟨f, g, hu', _⟩ := (okII htd).fs
      rw [hu] at hu'
      cases hu'
      rfl
    | one _ => cases hag
    | slice _ _ => cases hag
    | other => cases hag
  have hpl := mapM_places (P := P) (fs := fs.toList) (offs := td.offs) (fun k f n hk => by
    obtain ⟨fl, j, e1, e2⟩ := hx k f n hk
    exact ⟨fl, j, by rw [Array.getElem?_toList]; exact e1, e2⟩) hlen
  have hb : P.built t (ps.map fun x => (x.1, a.eval x.2)).toList = some cs' := by
    simp only [Program.built, hi, hu, hz, hpl, Array.toList_map]
    have e : (fun (x : Nat) => td.offs.toArray[x]?) = fun x => td.offs[x]? := funext fun x => by simp
    rw [e]
    exact h1
  have hr := run_build (P := P) w t (ps.map fun x => (x.1, a.eval x.2)) cs' hb
  refine does_val h hd (u := .agg cs') ?_ ⟨cs', rfl, h2⟩
  unfold execOp
  simp only [ho, Sem.run_bind]
  rw [hr]
  rfl
end
end Go.Pm
