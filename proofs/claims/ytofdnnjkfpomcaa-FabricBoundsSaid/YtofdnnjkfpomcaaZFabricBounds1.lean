/- Contracts for FabricBounds, packed: E1 E2 E3 E4 E5 E6 E7. -/
import GoSem.Core.Program
import GoSem.Core.Layout
import Derived.Laws.BytesArg
import Derived.ArgAppend
import Derived.Deep.MidRow
import Derived.Deep.LoopGhost
import Derived.Below
import Derived.WalkLawsBesides
import Derived.WalkKit
import Derived.Great.BuildSlice
import Derived.Laws.StructEq
import Derived.IntWalk
/- The evaluator: compact code, abstract values, a memory of literal blocks; it gives a tree whose nodes are what a proof decides. -/
namespace Go.Proofs.Ytofdnnjkfpomcaa.E
open Go

/-- A number: known, or a letter. -/
inductive Z where
 | lit (n : Int)
 | sym (n : Int)
inductive BB where
 | lit (b : Bool)
 | sym (b : Bool)
inductive NN where
 | lit (n : Nat)
 | sym (n : Nat)
def Z.val : Z → Int
 | .lit n => n
 | .sym n => n
def BB.val : BB → Bool
 | .lit n => n
 | .sym n => n
def NN.val : NN → Nat
 | .lit n => n
 | .sym n => n

/-- What a cell holds for good. -/
inductive G where
 | bool (b : BB)
 | int (k : IntKind) (z : Z)
 | str (s : ByteArray)
 | nilp
 | nil
 | rows (es : Nat) (l : List (List G))

/-- What a cell holds: ids of blocks are places in the memory's list. -/
inductive C where
 | any
 | g (x : G)
 | bor (es : Nat) (l : List (List G))
 | gp (row : List G) (j : Nat)
 | ptr (b : Nat) (i : NN) (es j : Nat)
 | row (b : Nat) (es : Nat) (cap : Option NN)
 | sl (b : Nat) (i : NN) (es : Nat) (n : NN) (cap : Option NN)
 | fn (f : FuncId) (caps : List (Nat × Nat × Nat))
 | map (b : Nat)
 | stamp (b : Nat) (z : Z)

inductive V1 where
 | c (x : C)
 | agg (l : List C)
inductive A where
 | one (v : V1)
 | tup (l : List V1)

inductive Blk where
 | dead
 | lit (es : Nat) (rows : List (List C))
 | sym (es : Nat) (l : List (List G))
 | mp (ag : Option Nat) (l : List (List G))
abbrev Mem := List Blk

/-- Operations on letters: a variable in the proofs. -/
structure Ints where
 bin : BinOp → IntKind → Int → Int → Int
 cmp : BinOp → Int → Int → Bool
 conv : IntKind → Int → Int
 neg : IntKind → Int → Int
 cpl : IntKind → Int → Int
 mx : Int → Int → Int
 mn : Int → Int → Int
 not : Bool → Bool
 and : Bool → Bool → Bool
 beq : Bool → Bool → Bool
 ofNat : Nat → Int
 add : Nat → Nat → Nat
 sub : Nat → Nat → Nat
 len : List (List G) → Nat
 app : List (List G) → List (List G) → List (List G)
 set : List (List G) → Nat → List G → List (List G)
 ext : List (List G) → Nat → Nat → List (List G)
 rep : Nat → List G → List (List G)
 cpy : List (List G) → Nat → Nat → List (List G) → List (List G)
 b2s : List (List G) → ByteArray
 seq : ByteArray → ByteArray → Bool
 mset : List (List G) → Int → List G → List (List G)
 pair : Int → Int → Int

/-! ### Compact code -/
inductive Opd where
 | tmp (t : Nat)
 | cst (x : C)
inductive EqK where
 | num
 | bool
 | ptr
 | str
 | agg (l : List Bool)
inductive XOp where
 | move (x : Opd)
 | pick (c a b : Opd)
 | box (x : Opd)
 | alloc (zero : List C)
 | build (zero : List C) (parts : List (Nat × Nat × Opd))
 | buildSlice (es : Nat) (zero : List C) (len : Nat) (parts : List (Nat × Opd))
 | load (ag : Option Nat) (x : Opd)
 | store (size : Nat) (x y : Opd)
 | bin (op : BinOp) (x y : Opd)
 | div (op : BinOp) (x y : Opd)
 | shift (op : BinOp) (x y : Opd)
 | cmp (op : BinOp) (x y : Opd)
 | eq (neg : Bool) (k : EqK) (x y : Opd)
 | isNil (neg : Bool) (x : Opd)
 | not (x : Opd)
 | neg (x : Opd)
 | cpl (x : Opd)
 | conv (k : IntKind) (x : Opd)
 | fieldAddr (off : Nat) (x : Opd)
 | field (off : Nat) (ag : Option Nat) (x : Opd)
 | indexAddr (arr : Option Nat) (es : Nat) (x i : Opd)
 | index (n es : Nat) (ag : Option Nat) (x i : Opd)
 | slice (es : Nat) (x : Opd) (lo hi : Option Opd)
 | makeSlice (es bytes : Nat) (zero : List C) (len : Opd) (cap : Option Opd)
 | extract (x : Opd) (i : Nat)
 | len (x : Opd)
 | cap (x : Opd)
 | mnmx (mx : Bool) (x : Opd) (l : List Opd)
 | append (es bytes : Nat) (zero : List C) (x y : Opd)
 | call (f : FuncId) (args : List Opd)
 | nilCheck (x : Opd)
 | dead
 | copy (es : Nat) (x y : Opd)
 | b2s (x : Opd)
 | s2b (l : List Nat)
 | appendZ (es bytes : Nat) (zero : List C) (x y : Opd)
 | makeMap (ag : Option Nat)
 | lookup (ok : Bool) (ag : Option Nat) (zero : List C) (x i : Opd)
 | mapUpdate (ag : Option Nat) (x i v : Opd)
 | mapEntry (ag : Option Nat) (zero : List C) (x i : Opd)
 | entryStore (ag : Option Nat) (x s v : Opd)
 | lenMap (x : Opd)
 | makeFunc (f : FuncId) (caps : List Opd)
 | callV (x : Opd) (args : List Opd)
structure XO where
 dst : Option Nat
 guard : Option (Nat × Bool)
 op : XOp
/-- A region that draws its order: an order, or two. -/
inductive DX where
 | nil
 | op (i : Nat) (er : Bool) (o : XO) (r : DX)
 | alt (a b : DX)
inductive X where
 | skip
 | ops (l : List XO)
 | drawn (id : Nat) (l : DX)
 | seq (a b : X)
 | cond (c : Opd) (t e : X)
 | block (id : Nat) (x : X)
 | loop (x : X)
 | exit (id : Nat)
 | ret
 | join (x : X)
 | mloop (pre : List XO) (mp : Opd) (it t1 tok t2 : Nat) (x : X)
 | rfun (c : Code)
inductive XRes where
 | tmp (t : Nat)
 | cell (t : Nat) (ag : Option Nat)
structure XF where
 ntmps : Nat
 res : List XRes
 body : X

/-! ### The evaluator -/
inductive Ex where
 | normal
 | exit (id : Nat)
 | ret

/-- What a proof decides. -/
inductive Tree : Type where
 | fail
 | goal (p : Prop)
 | br (b : Bool) (t e : Unit → Tree)
 | idx (z : Int) (n : Nat) (k : Nat → Tree)
 | rng (lo hi : Option Int) (n : Nat) (k : Nat → Nat → Tree)
 | nth (l : List (List G)) (i : Nat) (k : List G → Tree)
 | isnil (l : List (List G)) (t e : Unit → Tree)
 | nz (z : Int) (k : Unit → Tree)
 | nonneg (z : Int) (k : Unit → Tree)
 | size (z : Int) (bytes : Nat) (k : Nat → Tree)
 | most (n bytes : Nat) (k : Unit → Tree)
 | call (f : FuncId) (args : List V1) (m : Mem) (wr : Option (List Nat × Nat)) (k : A → Mem → Tree)
 | drawn (m : Mem) (k : List Nat → Tree)
 | both (t e : Unit → Tree)
 | fnok (f : FuncId) (k : Unit → Tree)
 | bytes (l : List (List G)) (k : Unit → Tree)
 | find (l : List (List G)) (z : Int) (k : Option (List G) → Tree)
 | loop (x : X) (ts : List A) (m : Mem) (k : Ex → List A → Mem → Tree)
 | join (x : X) (ts : List A) (m : Mem) (k : Ex → List A → Mem → Tree)
 | mloop (x : X) (b : Nat) (ag : Option Nat) (l : List (List G)) (it t1 tok t2 : Nat) (ts : List A) (m : Mem) (k : List A → Mem → Tree)
 | rfun (c : Code) (ts : List A) (m : Mem) (k : List A → Mem → Tree)

def rBin (op : BinOp) (k : IntKind) (x y : Int) : Int :=
 match op with
 | .add => k.wrap (x + y)
 | .sub => k.wrap (x - y)
 | .mul => k.wrap (x * y)
 | .quo => k.wrap (x.tdiv y)
 | .rem => x.tmod y
 | .and => k.wrap (BitVec.ofInt k.bits x &&& BitVec.ofInt k.bits y).toNat
 | .or => k.wrap (BitVec.ofInt k.bits x ||| BitVec.ofInt k.bits y).toNat
 | .xor => k.wrap (BitVec.ofInt k.bits x ^^^ BitVec.ofInt k.bits y).toNat
 | .andNot => k.wrap (BitVec.ofInt k.bits x &&& ~~~ BitVec.ofInt k.bits y).toNat
 | .shl => k.wrap (x * 2 ^ (min y.toNat k.bits))
 | .shr => x.fdiv (2 ^ (min y.toNat k.bits))
 | _ => 0
def rCmp (op : BinOp) (x y : Int) : Bool :=
 match op with
 | .eql => x == y
 | .neq => x != y
 | .lss => decide (x < y)
 | .leq => decide (x ≤ y)
 | .gtr => decide (x > y)
 | .geq => decide (x ≥ y)
 | _ => false
def rNeg (k : IntKind) (x : Int) : Int := k.wrap (0 - x)
def rCpl (k : IntKind) (x : Int) : Int := k.wrap (BitVec.ofInt k.bits (if k.signed then -1 else k.max) ^^^ BitVec.ofInt k.bits x).toNat
/-- The row of a key. -/
def rowKey : List G → Option Int
 | .int _ z :: _ => some z.val
 | _ => none
def mfind (l : List (List G)) (z : Int) : Option (List G) := l.find? fun r => rowKey r == some z
def mset : List (List G) → Int → List G → List (List G)
 | [], _, row => [row]
 | r :: l, z, row => if rowKey r == some z then row :: l else r :: mset l z row
def gNum : List G → Int
 | .int _ z :: _ => z.val
 | _ => 0
/-- Two numbers told as one: a map's keys of two numbers. -/
def zNat (a : Int) : Nat := if 0 ≤ a then 2 * a.toNat else 2 * (-a).toNat + 1
def pairZ (a b : Int) : Int := ((2 ^ zNat a * (2 * zNat b + 1) : Nat) : Int)
/-- How a map's values are read: `some 0` tells of keys of two numbers. -/
def vag : Option Nat → Option Nat
 | some 0 => none
 | x => x
def ints : Ints where
 bin := rBin
 cmp := rCmp
 conv k x := k.wrap x
 neg := rNeg
 cpl := rCpl
 mx x y := if y > x then y else x
 mn x y := if y < x then y else x
 not b := !b
 and a b := a && b
 beq a b := a == b
 ofNat n := (n : Int)
 add a b := a + b
 sub a b := a - b
 len l := l.length
 app a b := a ++ b
 set l i r := l.set i r
 ext l a b := (l.take b).drop a
 rep n r := List.replicate n r
 cpy l i n s := l.take i ++ s.take n ++ l.drop (i + min n s.length)
 b2s l := strOfNums (l.map gNum)
 seq a b := a.toList == b.toList
 mset := mset
 pair := pairZ

section
variable (I : Ints)
def zBin (op : BinOp) (k : IntKind) : Z → Z → Z
 | .lit a, .lit b => .lit (rBin op k a b)
 | x, y => .sym (I.bin op k x.val y.val)
def zCmp (op : BinOp) : Z → Z → BB
 | .lit a, .lit b => .lit (rCmp op a b)
 | x, y => .sym (I.cmp op x.val y.val)
def zConv (k : IntKind) : Z → Z
 | .lit a => .lit (k.wrap a)
 | .sym a => .sym (I.conv k a)
def zNeg (k : IntKind) : Z → Z
 | .lit a => .lit (rNeg k a)
 | .sym a => .sym (I.neg k a)
def zCpl (k : IntKind) : Z → Z
 | .lit a => .lit (rCpl k a)
 | .sym a => .sym (I.cpl k a)
def zMx (mx : Bool) : Z → Z → Z
 | .lit a, .lit b => .lit (match mx with | true => (if b > a then b else a) | false => (if b < a then b else a))
 | x, y => .sym (match mx with | true => I.mx x.val y.val | false => I.mn x.val y.val)
def bNot : BB → BB
 | .lit b => .lit (!b)
 | .sym b => .sym (I.not b)
def bAnd : BB → BB → BB
 | .lit false, _ => .lit false
 | .lit true, y => y
 | _, .lit false => .lit false
 | x, .lit true => x
 | .sym a, .sym b => .sym (I.and a b)
def bEq : BB → BB → BB
 | .lit a, .lit b => .lit (a == b)
 | x, y => .sym (I.beq x.val y.val)
def nAdd : NN → NN → NN
 | .lit a, .lit b => .lit (a + b)
 | .lit 0, y => y
 | x, .lit 0 => x
 | x, y => .sym (I.add x.val y.val)
def nSub : NN → NN → NN
 | .lit a, .lit b => .lit (a - b)
 | x, .lit 0 => x
 | x, y => .sym (I.sub x.val y.val)
def zOfN : NN → Z
 | .lit n => .lit (Int.ofNat n)
 | .sym n => .sym (I.ofNat n)

def V1.cells : V1 → List C
 | .c x => [x]
 | .agg l => l
def getT (ts : List A) (t : Nat) : A := ts.getD t (.one (.c .any))
def Opd.ev (ts : List A) : Opd → A
 | .tmp t => getT ts t
 | .cst x => .one (.c x)
def ev1 (ts : List A) (x : Opd) (k : V1 → Tree) : Tree :=
 match x.ev ts with
 | .one v => k v
 | .tup _ => .fail
def evC (ts : List A) (x : Opd) (k : C → Tree) : Tree :=
 match x.ev ts with
 | .one (.c v) => k v
 | _ => .fail
def evZ (ts : List A) (x : Opd) (k : IntKind → Z → Tree) : Tree :=
 match x.ev ts with
 | .one (.c (.g (.int i z))) => k i z
 | _ => .fail
def evZ? (ts : List A) (x : Option Opd) (k : Option Z → Tree) : Tree :=
 match x with
 | none => k none
 | some x => evZ ts x fun _ z => k (some z)
def evB (ts : List A) (x : Opd) (k : Bool → Tree) : Tree :=
 match x.ev ts with
 | .one (.c (.g (.bool (.lit b)))) => k b
 | .one (.c (.g (.bool (.sym b)))) => .br b (fun _ => k true) (fun _ => k false)
 | _ => .fail
/-- What may be stored: a letter for a whole value may not. -/
def evV (ts : List A) (x : Opd) (k : V1 → Tree) : Tree :=
 match x.ev ts with
 | .one (.c .any) => .fail
 | .one v => k v
 | .tup _ => .fail
def ev1s (ts : List A) : List Opd → (List V1 → Tree) → Tree
 | [], k => k []
 | x :: r, k => ev1 ts x fun v => ev1s ts r fun vs => k (v :: vs)
def evZs (ts : List A) : List Opd → (List Z → Tree) → Tree
 | [], k => k []
 | x :: r, k => evZ ts x fun _ v => evZs ts r fun vs => k (v :: vs)

/-- What a function value has with it: cells of blocks. -/
def capsOf : List V1 → Option (List (Nat × Nat × Nat))
 | [] => some []
 | .c (.ptr b (.lit 0) es j) :: r => match capsOf r with
  | some l => some ((b, es, j) :: l)
  | none => none
 | _ :: _ => none
def capsIn : List (Nat × Nat × Nat) → List V1
 | [] => []
 | (b, es, j) :: r => .c (.ptr b (.lit 0) es j) :: capsIn r
/-- A place in a literal list. -/
def zIdx (lit : Bool) (z : Z) (n : NN) (k : NN → Tree) : Tree :=
 match z, n with
 | .lit z, .lit n => match decide (0 ≤ z), decide (z < n) with
  | true, true => k (.lit z.toNat)
  | _, _ => .fail
 | z, n => .idx z.val n.val fun i => k (match lit with | true => .lit i | false => .sym i)
def zRng (lo hi : Option Z) (n : NN) (k : NN → NN → Tree) : Tree :=
 match lo, hi, n with
 | none, none, n => k (.lit 0) n
 | none, some (.lit h), .lit n => match decide (0 ≤ h), decide (h ≤ n) with
  | true, true => k (.lit 0) (.lit h.toNat)
  | _, _ => .fail
 | some (.lit l), none, .lit n => match decide (0 ≤ l), decide (l ≤ n) with
  | true, true => k (.lit l.toNat) (.lit n)
  | _, _ => .fail
 | some (.lit l), some (.lit h), .lit n => match decide (0 ≤ l), decide (l ≤ h), decide (h ≤ n) with
  | true, true, true => k (.lit l.toNat) (.lit h.toNat)
  | _, _, _ => .fail
 | lo, hi, n => .rng (lo.map (·.val)) (hi.map (·.val)) n.val fun l h => k (match lo with | some (.lit l) => .lit l.toNat | none => .lit 0 | _ => .sym l) (match hi with | some (.lit h) => .lit h.toNat | none => n | _ => .sym h)

def Blk.es : Blk → Nat
 | .dead => 0
 | .lit es _ => es
 | .sym es _ => es
 | .mp _ _ => 0
def Blk.len : Blk → NN
 | .dead => .lit 0
 | .mp _ _ => .lit 0
 | .lit _ r => .lit r.length
 | .sym _ l => .sym (I.len l)
def seg (row : List C) (j : Nat) (ag : Option Nat) (k : V1 → Tree) : Tree :=
 match ag with
 | none => match row[j]? with
  | some c => k (.c c)
  | none => .fail
 | some n => match decide (j + n ≤ row.length) with
  | true => k (.agg ((row.drop j).take n))
  | false => .fail
def grounds : List C → Option (List G)
 | [] => some []
 | .g x :: r => match grounds r with
  | some l => some (x :: l)
  | none => none
 | _ :: _ => none
def groundRows : List (List C) → Option (List (List G))
 | [] => some []
 | x :: r => match grounds x, groundRows r with
  | some x, some l => some (x :: l)
  | _, _ => none
def G.sy : G → G
 | .int k z => .int k (.sym z.val)
 | .bool b => .bool (.sym b.val)
 | x => x
/-- Rows that are known cell by cell and are many are told by their place. -/
def manyLit (rows : List (List C)) : Bool := !(decide (5 ≤ rows.length) && (groundRows rows).isSome)
/-- A load. -/
def ld (ag : Option Nat) (x : C) (m : Mem) (k : V1 → Tree) : Tree :=
 match x with
 | .gp row j => seg (row.map .g) j ag k
 | .ptr b i es j => match m[b]? with
  | some (.lit es' rows) => match i, es == es' with
   | .lit i, true => match rows[i]? with
    | some row => seg row j ag k
    | none => .fail
   | .sym i, true => match groundRows rows with
    | some l => .nth l i fun row => seg (row.map fun x => .g x.sy) j ag k
    | none => .fail
   | _, _ => .fail
  | some (.sym es' l) => match es == es' with
   | true => .nth l i.val fun row => seg (row.map .g) j ag k
   | false => .fail
  | _ => .fail
 | _ => .fail
def setSeg (row : List C) (j : Nat) : List C → List C
 | [] => row
 | c :: r => setSeg (row.set j c) (j + 1) r
def setG (row : List G) (j : Nat) : List G → List G
 | [] => row
 | c :: r => setG (row.set j c) (j + 1) r
/-- A store. -/
def stq (size : Nat) (x : C) (v : V1) (m : Mem) (k : Mem → Tree) : Tree :=
 match v.cells.length == size, x with
 | true, .ptr b i es j => match m[b]? with
  | some (.lit es' rows) => match i, es == es' with
   | .lit i, true => match rows[i]? with
    | some row => match decide (j + size ≤ row.length) with
     | true => k (m.set b (.lit es (rows.set i (setSeg row j v.cells))))
     | false => .fail
    | none => .fail
   | _, _ => .fail
  | some (.sym es' l) => match es == es', grounds v.cells with
   | true, some gs => .nth l i.val fun row => match decide (j + size ≤ row.length) with
    | true => k (m.set b (.sym es (I.set l i.val (setG row j (gs.map G.sy)))))
    | false => .fail
   | _, _ => .fail
  | _ => .fail
 | _, _ => .fail
def places (zero : List C) : List (Nat × Nat × V1) → Option (List C)
 | [] => some zero
 | (off, size, v) :: r => match v.cells.length == size, decide (off + size ≤ zero.length) with
  | true, true => places (setSeg zero off v.cells) r
  | _, _ => none
def evParts (ts : List A) : List (Nat × Nat × Opd) → (List (Nat × Nat × V1) → Tree) → Tree
 | [], k => k []
 | (o, s, x) :: r, k => evV ts x fun v => evParts ts r fun vs => k ((o, s, v) :: vs)
/-- Cell by cell: numbers (false), bools (true). -/
def eqCells : List Bool → List C → List C → Option BB
 | [], [], [] => some (.lit true)
 | false :: ks, .g (.int i x) :: r, .g (.int j y) :: s => match decide (i = j), eqCells ks r s with
  | true, some b => some (bAnd I (zCmp I .eql x y) b)
  | _, _ => none
 | true :: ks, .g (.bool x) :: r, .g (.bool y) :: s => match eqCells ks r s with
  | some b => some (bAnd I (bEq I x y) b)
  | none => none
 | _, _, _ => none
def eqV (kd : EqK) (x y : V1) : Option BB :=
 match kd, x, y with
 | .bool, .c (.g (.bool a)), .c (.g (.bool b)) => some (bEq I a b)
 | .ptr, .c (.g .nilp), .c (.g .nilp) => some (.lit true)
 | .ptr, .c (.ptr _ _ _ _), .c (.g .nilp) => some (.lit false)
 | .ptr, .c (.g .nilp), .c (.ptr _ _ _ _) => some (.lit false)
 | .str, .c (.g (.str a)), .c (.g (.str b)) => some (.sym (I.seq a b))
 | .agg ks, .agg l, .agg r => eqCells I ks l r
 | _, _, _ => none
/-- The elements of what may be read, all of them ground. -/
def rowsOf0 (es : Nat) (x : C) (m : Mem) : Option (List (List G)) :=
 match x with
 | .g .nil => some []
 | .g (.rows es' l) => match es == es' with
  | true => some l
  | false => none
 | .bor es' l => match es == es' with
  | true => some l
  | false => none
 | .row b es' _ => match es == es', m[b]? with
  | true, some (.sym _ l) => some l
  | true, some (.lit _ rows) => groundRows rows
  | _, _ => none
 | .sl b i es' n _ => match es == es', m[b]? with
  | true, some (.sym _ l) => some (I.ext l i.val (nAdd I i n).val)
  | true, some (.lit _ rows) => match i, n with
   | .lit i, .lit n => groundRows ((rows.take (i + n)).drop i)
   | _, _ => none
  | _, _ => none
 | _ => none
def baseOf : C → Option Nat
 | .row b _ _ => some b
 | .sl b _ _ _ _ => some b
 | _ => none
def rowsSy (l : List (List G)) : List (List G) := l.map fun r => r.map G.sy
/-- Known numbers of a block that is known row by row are letters in a list. -/
def rowsOf (es : Nat) (x : C) (m : Mem) : Option (List (List G)) :=
 match rowsOf0 I es x m, baseOf x with
 | some l, none => some l
 | some l, some b => match m[b]? with
  | some (.lit _ _) => some (rowsSy l)
  | _ => some l
 | none, _ => none
/-- Cells that are frozen: rows whose blocks have other names no more. -/
def frzC : List C → Mem → (List G → Mem → Tree) → Tree
 | [], m, k => k [] m
 | .g x :: r, m, k => frzC r m fun gs m => k (x :: gs) m
 | .row b es c :: r, m, k => match rowsOf I es (.row b es c) m with
  | some l => frzC r (m.set b .dead) fun gs m => k (.rows es l :: gs) m
  | none => .fail
 | _ :: _, _, _ => .fail
def reV (v : V1) (gs : List G) : V1 := match v with
 | .c _ => match gs with
  | [g] => .c (.g g)
  | _ => .c .any
 | .agg _ => .agg (gs.map C.g)
def frzV (v : V1) (m : Mem) (k : V1 → Mem → Tree) : Tree := match grounds v.cells with
 | some _ => k v m
 | none => frzC I v.cells m fun gs m => k (reV v gs) m
/-- A row that was just laid, of known length. -/
def litRow (v : V1) (m : Mem) : Bool := match v with
 | .c (.row b es c) => match m[b]? with
  | some (.lit _ _) => (rowsOf I es (.row b es c) m).isSome
  | _ => false
 | _ => false
def frzP : List (Nat × Nat × V1) → Mem → (List (Nat × Nat × V1) → Mem → Tree) → Tree
 | [], m, k => k [] m
 | (o, s, v) :: r, m, k => match litRow I v m with
  | true => frzV I v m fun v m => frzP r m fun vs m => k ((o, s, v) :: vs) m
  | false => frzP r m fun vs m => k ((o, s, v) :: vs) m
/-- Is what is stored there to be frozen? -/
def fzWant (b : Nat) (v : V1) (m : Mem) : Bool := match m[b]? with
 | some (.sym _ _) => true
 | some (.lit _ _) => v.cells.any (fun x => litRow I (.c x) m) && v.cells.all (fun x => litRow I (.c x) m || match x with | .g _ => true | _ => false)
 | _ => false
def lenOf (x : C) (m : Mem) : Option NN :=
 match x with
 | .g .nil => some (.lit 0)
 | .g (.rows _ l) => some (.sym (I.len l))
 | .bor _ l => some (.sym (I.len l))
 | .row b _ _ => match m[b]? with
  | some .dead => none
  | some blk => some (blk.len I)
  | none => none
 | .sl b _ _ n _ => match m[b]? with
  | some .dead => none
  | some _ => some n
  | none => none
 | _ => none
def isNilRow : C → Bool
 | .g .nil => true
 | _ => false

def okW (wr : Option (List Nat × Nat)) (b : Nat) : Bool := match wr with
 | none => true
 | some (l, n) => l.contains b || decide (n ≤ b)
def okR (wr : Option (List Nat × Nat)) (x : C) : Bool := match wr, x with
 | some (l, n), .ptr b _ _ _ => !l.contains b && decide (b < n)
 | _, _ => true
/-- Elements laid over others; how many. -/
def cpy (es : Nat) (wr : Option (List Nat × Nat)) (src : List (List G)) (a : C) (m : Mem) (k : Int → Mem → Tree) : Tree :=
 match a with
 | .row b es' _ => match es == es', okW wr b, m[b]? with
  | true, true, some (.sym _ l) => k (I.mn (I.ofNat (I.len l)) (I.ofNat (I.len src))) (m.set b (.sym es (I.cpy l 0 (I.len l) src)))
  | _, _, _ => .fail
 | .sl b i es' n _ => match es == es', okW wr b, m[b]? with
  | true, true, some (.sym _ l) => k (I.mn (I.ofNat n.val) (I.ofNat (I.len src))) (m.set b (.sym es (I.cpy l i.val n.val src)))
  | _, _, _ => .fail
 | _ => .fail
/-- Rows that are known cell by cell behind such rows that have no room: new ones. -/
def appLit (es bytes : Nat) (wr : Option (List Nat × Nat)) (a b : C) (m : Mem) (k : A → Mem → Tree) : Tree :=
 match a, b with
 | .row b1 es1 (some (.lit n)), .row b2 es2 _ => match m[b1]?, m[b2]? with
  | some (.lit e1 (r1 :: rows1)), some (.lit e2 (r :: rows2)) => match es == es1, es == es2, es == e1, es == e2, n == rows1.length + 1 with
   | true, true, true, true, true => .most ((r1 :: rows1) ++ (r :: rows2)).length bytes fun _ => k (.one (.c (.row m.length es none))) (m ++ [.lit es ((r1 :: rows1) ++ (r :: rows2))])
   | _, _, _, _, _ => .fail
  | _, _ => .fail
 | .row b1 es1 none, .row b2 es2 _ => match m[b1]?, m[b2]? with
  | some (.lit e1 (r1 :: rows1)), some (.lit e2 (r :: rows2)) => match es == es1, es == es2, es == e1, es == e2, okW wr b1 with
   | true, true, true, true, true => .most ((r1 :: rows1) ++ (r :: rows2)).length bytes fun _ => k (.one (.c (.row m.length es none))) (m.set b1 .dead ++ [.lit es ((r1 :: rows1) ++ (r :: rows2))])
   | _, _, _, _, _ => .fail
  | _, _ => .fail
 | _, _ => .fail
def mapOf (ag : Option Nat) (a : C) (kd : IntKind) (m : Mem) (k : Nat → List (List G) → Tree) : Tree :=
 match a, kd with
 | .map b, .i64 => match m[b]? with
  | some (.mp ag' l) => match ag == ag' with
   | true => k b l
   | false => .fail
  | _ => .fail
 | _, _ => .fail
/-- Keys of two numbers are not covered there. -/
def noPair (ag : Option Nat) (t : Tree) : Tree := match ag with
 | some 0 => .fail
 | _ => t
def evK (ag : Option Nat) (ts : List A) (x : Opd) (k : IntKind → Z → Tree) : Tree :=
 match ag with
 | some 0 => match x.ev ts with
  | .one (.agg [.g (.int .i64 a), .g (.int .i64 b)]) => k .i64 (.sym (I.pair a.val b.val))
  | _ => .fail
 | _ => evZ ts x k
def fits (ag : Option Nat) (v : V1) : Bool := match ag, v with
 | none, .c _ => true
 | some n, .agg l => l.length == n
 | _, _ => false
def evOp (er : Bool) (wr : Option (List Nat × Nat)) (o : XOp) (ts : List A) (m : Mem) (k : A → Mem → Tree) : Tree :=
 match o with
 | .move x => k (x.ev ts) m
 | .pick c a b => evB ts c fun t => match t with | true => k (a.ev ts) m | false => k (b.ev ts) m
 | .box x => evV ts x fun v => k (.one (.c (.ptr m.length (.lit 0) v.cells.length 0))) (m ++ [.lit v.cells.length [v.cells]])
 | .alloc z => k (.one (.c (.ptr m.length (.lit 0) z.length 0))) (m ++ [.lit z.length [z]])
 | .build z ps => evParts ts ps fun vs => match places z vs with | some cs => k (.one (.agg cs)) m | none => .fail
 | .buildSlice es z n ps => evParts ts (ps.map fun (i, x) => (i * es, es, x)) fun vs => frzP I vs m fun vs m => match places (List.replicate n z).flatten vs with
  | some cs => k (.one (.c (.row m.length es (some (.lit n))))) (m ++ [.lit es ((List.range n).map fun i => (cs.drop (i * es)).take es)])
  | none => .fail
 | .load ag x => evC ts x fun a => match er, okR wr a with | true, false => .fail | _, _ => ld ag a m fun v => k (.one v) m
 | .store size x y => evC ts x fun a => evV ts y fun v => match a with
  | .ptr b _ _ _ => match okW wr b with
   | true => match fzWant I b v m with
    | true => frzV I v m fun v m => stq I size a v m fun m => k (.one (.c .any)) m
    | false => stq I size a v m fun m => k (.one (.c .any)) m
   | false => .fail
  | _ => .fail
 | .bin op x y => evZ ts x fun i a => evZ ts y fun i' b => match decide (i = i') with
  | true => k (.one (.c (.g (.int i (zBin I op i a b))))) m
  | false => .fail
 | .div op x y => evZ ts x fun i a => evZ ts y fun i' b => match decide (i = i') with
  | true => match b with
   | .lit n => (match decide (n = 0) with | true => .fail | false => k (.one (.c (.g (.int i (zBin I op i a b))))) m)
   | .sym n => .nz n fun _ => k (.one (.c (.g (.int i (zBin I op i a b))))) m
  | false => .fail
 | .shift op x y => evZ ts x fun i a => evZ ts y fun _ b => match b with
  | .lit n => (match decide (0 ≤ n) with | true => k (.one (.c (.g (.int i (zBin I op i a b))))) m | false => .fail)
  | .sym n => .nonneg n fun _ => k (.one (.c (.g (.int i (zBin I op i a b))))) m
 | .cmp op x y => evZ ts x fun i a => evZ ts y fun i' b => match decide (i = i') with
  | true => k (.one (.c (.g (.bool (zCmp I op a b))))) m
  | false => .fail
 | .eq ng kd x y => ev1 ts x fun a => ev1 ts y fun b => match eqV I kd a b with
  | some r => k (.one (.c (.g (.bool (match ng with | true => bNot I r | false => r))))) m
  | none => .fail
 | .isNil ng x => evC ts x fun a => match a with
  | .g .nil => k (.one (.c (.g (.bool (.lit (!ng)))))) m
  | .g (.rows _ l) => .isnil l (fun _ => k (.one (.c (.g (.bool (.lit (!ng)))))) m) (fun _ => k (.one (.c (.g (.bool (.lit ng))))) m)
  | .bor _ l => .isnil l (fun _ => k (.one (.c (.g (.bool (.lit (!ng)))))) m) (fun _ => k (.one (.c (.g (.bool (.lit ng))))) m)
  | _ => .fail
 | .not x => match x.ev ts with
  | .one (.c (.g (.bool b))) => k (.one (.c (.g (.bool (bNot I b))))) m
  | _ => .fail
 | .neg x => evZ ts x fun i a => k (.one (.c (.g (.int i (zNeg I i a))))) m
 | .cpl x => evZ ts x fun i a => k (.one (.c (.g (.int i (zCpl I i a))))) m
 | .conv i x => evZ ts x fun _ a => k (.one (.c (.g (.int i (zConv I i a))))) m
 | .fieldAddr off x => evC ts x fun a => match a with
  | .ptr b i es j => k (.one (.c (.ptr b i es (j + off)))) m
  | .gp r j => k (.one (.c (.gp r (j + off)))) m
  | _ => .fail
 | .field off ag x => ev1 ts x fun v => match v with
  | .agg l => seg l off ag fun v => k (.one v) m
  | _ => .fail
 | .indexAddr arr es x i => evC ts x fun a => evZ ts i fun _ z => match arr with
  | some n => match a with
   | .ptr b i es' j => zIdx true z (.lit n) fun q => match q with
    | .lit q => k (.one (.c (.ptr b i es' (j + q * es)))) m
    | .sym _ => .fail
   | _ => .fail
  | none => match a with
   | .g (.rows es' l) => match es == es' with
    | true => zIdx false z (.sym (I.len l)) fun q => .nth l q.val fun r => k (.one (.c (.gp r 0))) m
    | false => .fail
   | .bor es' l => match es == es' with
    | true => zIdx false z (.sym (I.len l)) fun q => .nth l q.val fun r => k (.one (.c (.gp r 0))) m
    | false => .fail
   | .row b es' _ => match es == es', m[b]? with
    | true, some (.lit _ r) => zIdx (manyLit r) z (.lit r.length) fun q => k (.one (.c (.ptr b q es 0))) m
    | true, some (.sym _ l) => zIdx false z (.sym (I.len l)) fun q => k (.one (.c (.ptr b q es 0))) m
    | _, _ => .fail
   | .sl b o es' n _ => match es == es', m[b]? with
    | true, some (.lit _ _) => zIdx true z n fun q => k (.one (.c (.ptr b (nAdd I o q) es 0))) m
    | true, some (.sym _ _) => zIdx false z n fun q => k (.one (.c (.ptr b (nAdd I o q) es 0))) m
    | _, _ => .fail
   | _ => .fail
 | .index n es ag x i => ev1 ts x fun v => evZ ts i fun _ z => match v with
  | .agg l => zIdx true z (.lit n) fun q => match q with
   | .lit q => seg l (q * es) ag fun v => k (.one v) m
   | .sym _ => .fail
  | _ => .fail
 | .slice es x lo hi => evC ts x fun a => evZ? ts lo fun l => evZ? ts hi fun h => match a with
  | .g .nil => zRng l h (.lit 0) fun _ _ => k (.one (.c (.g .nil))) m
  | .g (.rows es' r) => match es == es' with
   | true => zRng l h (.sym (I.len r)) fun p q => k (.one (.c (.g (.rows es (I.ext r p.val q.val))))) m
   | false => .fail
  | .bor es' r => match es == es' with
   | true => zRng l h (.sym (I.len r)) fun p q => k (.one (.c (.bor es (I.ext r p.val q.val)))) m
   | false => .fail
  | .row b es' c => match es == es', m[b]? with
   | true, some .dead => .fail
   | true, some blk => zRng l h (blk.len I) fun p q => k (.one (.c (.sl b p es (nSub I q p) (c.map fun c => nSub I c p)))) m
   | _, _ => .fail
  | .sl b o es' n c => match es == es', m[b]? with
   | true, some .dead => .fail
   | true, some _ => zRng l h (match hi, c with | some _, some c => c | _, _ => n) fun p q => k (.one (.c (.sl b (nAdd I o p) es (nSub I q p) (c.map fun c => nSub I c p)))) m
   | _, _ => .fail
  | _ => .fail
 | .makeSlice es bytes z ln none => evZ ts ln fun _ n => match n, grounds z with
  | .lit n, gz => match decide (16 < n), gz with
   | true, some g => .size n bytes fun n' => k (.one (.c (.row m.length es (some (.sym n'))))) (m ++ [.sym es (I.rep n' (g.map G.sy))])
   | _, _ => match decide (0 ≤ n), decide (n ≤ 4096) with
    | true, true => k (.one (.c (.row m.length es (some (.lit n.toNat))))) (m ++ [.lit es (List.replicate n.toNat z)])
    | _, _ => .fail
  | .sym n, some g => .size n bytes fun n' => k (.one (.c (.row m.length es (some (.sym n'))))) (m ++ [.sym es (I.rep n' (g.map G.sy))])
  | .sym _, none => .fail
 | .makeSlice es bytes z ln (some cp) => evZ ts ln fun _ n => evZ ts cp fun _ c => match grounds z with
  | some g => .size c.val bytes fun c' => .idx n.val (I.add c' 1) fun n' => k (.one (.c (.sl m.length (.lit 0) es (.sym n') (some (.sym c'))))) (m ++ [.sym es (I.rep c' (g.map G.sy))])
  | none => .fail
 | .extract x i => match x.ev ts with
  | .tup l => match l[i]? with
   | some v => k (.one v) m
   | none => .fail
  | _ => .fail
 | .len x => evC ts x fun a => match lenOf I a m with
  | some n => k (.one (.c (.g (.int .i64 (zOfN I n))))) m
  | none => .fail
 | .cap x => evC ts x fun a => match a with
  | .g .nil => k (.one (.c (.g (.int .i64 (zOfN I (.lit 0)))))) m
  | .row b _ (some c) => match m[b]? with
   | some .dead => .fail
   | some _ => k (.one (.c (.g (.int .i64 (zOfN I c))))) m
   | none => .fail
  | .sl b _ _ _ (some c) => match m[b]? with
   | some .dead => .fail
   | some _ => k (.one (.c (.g (.int .i64 (zOfN I c))))) m
   | none => .fail
  | _ => .fail
 | .mnmx mx x l => evZ ts x fun i a => evZs ts l fun zs => k (.one (.c (.g (.int i (zs.foldl (zMx I mx) a))))) m
 | .append es bytes _ x y => evC ts x fun a => evC ts y fun b => match isNilRow a, isNilRow b with
  | true, true => k (.one (.c (.g .nil))) m
  | true, false => match rowsOf I es b m with
   | some src => .most (I.len src) bytes fun _ => k (.one (.c (.row m.length es none))) (m ++ [.sym es src])
   | none => match b with
    | .row b es' _ => match es == es', m[b]? with
     | true, some (.lit es2 rows) => match es == es2 with
      | true => .most rows.length bytes fun _ => k (.one (.c (.row m.length es none))) (m ++ [.lit es rows])
      | false => .fail
     | _, _ => .fail
    | _ => .fail
  | false, true => match a with
   | .row b es' c => match m[b]? with
    | some .dead => .fail
    | some _ => k (.one (.c (.row b es' c))) m
    | none => .fail
   | .sl b i es' n c => match m[b]? with
    | some .dead => .fail
    | some _ => k (.one (.c (.sl b i es' n c))) m
    | none => .fail
   | _ => .fail
  | false, false => match rowsOf I es a m, rowsOf I es b m, baseOf a with
   | some old, some src, some b => match okW wr b with
    | true => .most (I.len (I.app old src)) bytes fun _ => k (.one (.c (.row m.length es none))) ((m.set b .dead) ++ [.sym es (I.app old src)])
    | false => .fail
   | _, _, _ => appLit es bytes wr a b m k
 | .call f args => ev1s ts args fun vs => .call f vs m wr k
 | .nilCheck x => evC ts x fun a => match a with
  | .ptr b i es j => k (.one (.c (.ptr b i es j))) m
  | .gp r j => k (.one (.c (.gp r j))) m
  | _ => .fail
 | .dead => .fail
 | .copy es x y => evC ts x fun a => evC ts y fun b => match rowsOf I es b m with
  | some src => cpy I es wr src a m fun n m => k (.one (.c (.g (.int .i64 (.sym n))))) m
  | none => .fail
 | .b2s x => evC ts x fun a => match rowsOf I 1 a m with
  | some l => .bytes l fun _ => k (.one (.c (.g (.str (I.b2s l))))) m
  | none => .fail
 | .appendZ es bytes z x y => evC ts x fun a => evZ ts y fun _ n => match a, grounds z with
  | .g .nil, some g => .nz n.val fun _ => .size n.val bytes fun n' => .most n' bytes fun _ => k (.one (.c (.row m.length es none))) (m ++ [.sym es (I.rep n' (g.map G.sy))])
  | _, _ => .fail
 | .s2b l => k (.one (.c (.row m.length 1 none))) (m ++ [.sym 1 (l.map fun (n : Nat) => [.int .u8 (.sym (n : Int))])])
 | .makeMap ag => k (.one (.c (.map m.length))) (m ++ [.mp ag []])
 | .lookup ok ag z x i => evC ts x fun a => evK I ag ts i fun kd key => mapOf ag a kd m fun _ l => .find l key.val fun r => match r with
  | some row => seg (row.map .g) 1 (vag ag) fun v => k (match ok with | true => .tup [v, .c (.g (.bool (.lit true)))] | false => .one v) m
  | none => seg z 0 (vag ag) fun v => k (match ok with | true => .tup [v, .c (.g (.bool (.lit false)))] | false => .one v) m
 | .mapUpdate ag x i v => evC ts x fun a => evK I ag ts i fun kd key => evV ts v fun v => frzV I v m fun v m => mapOf ag a kd m fun b l => match okW wr b, grounds v.cells, fits (vag ag) v with
  | true, some gs, true => k (.one (.c .any)) (m.set b (.mp ag (I.mset l key.val (.int .i64 (.sym key.val) :: gs.map G.sy))))
  | _, _, _ => .fail
 | .mapEntry ag z x i => evC ts x fun a => evZ ts i fun kd key => mapOf ag a kd m fun b l => .find l key.val fun r => match okW wr b, r with
  | true, some row => seg (row.map .g) 1 ag fun v => k (.tup [v, .c (.stamp b key)]) m
  | true, none => match grounds z with
   | some gs => seg z 0 ag fun v => k (.tup [v, .c (.stamp b key)]) (m.set b (.mp ag (I.mset l key.val (.int .i64 (.sym key.val) :: gs.map G.sy))))
   | none => .fail
  | false, _ => .fail
 | .entryStore ag x s v => evC ts x fun a => evC ts s fun s => evV ts v fun v => mapOf ag a .i64 m fun b l => match s, okW wr b, grounds v.cells, fits ag v with
  | .stamp b' key, true, some gs, true => match b == b' with
   | true => k (.one (.c .any)) (m.set b (.mp ag (I.mset l key.val (.int .i64 (.sym key.val) :: gs.map G.sy))))
   | false => .fail
  | _, _, _, _ => .fail
 | .lenMap x => evC ts x fun a => match a with
  | .map b => match m[b]? with
   | some (.mp _ l) => k (.one (.c (.g (.int .i64 (.sym (I.ofNat (I.len l))))))) m
   | _ => .fail
  | _ => .fail
 | .makeFunc f xs => ev1s ts xs fun vs => match capsOf vs with
  | some l => k (.one (.c (.fn f l))) m
  | none => .fail
 | .callV x args => evC ts x fun a => match a with
  | .fn f caps => ev1s ts args fun vs => .fnok f fun _ => .call f (vs ++ capsIn caps) m wr k
  | _ => .fail

def putT (ts : List A) (d : Option Nat) (v : A) : List A := match d with
 | some d => ts.set d v
 | none => ts
/-- Is the operation to be done? A letter is decided, for good. -/
def evGuard (g : Option (Nat × Bool)) (ts : List A) (k : Bool → List A → Tree) : Tree :=
 match g with
 | none => k true ts
 | some (t, want) => match getT ts t with
  | .one (.c (.g (.bool (.lit b)))) => k (b == want) ts
  | .tup [] => k false ts
  | .one (.c (.g (.bool (.sym b)))) => .br b (fun _ => k (true == want) (ts.set t (.one (.c (.g (.bool (.lit true))))))) (fun _ => k (false == want) (ts.set t (.one (.c (.g (.bool (.lit false)))))))
  | _ => .fail
def ev1op (er : Bool) (wr : Option (List Nat × Nat)) (o : XO) (ts : List A) (m : Mem) (k : List A → Mem → Tree) : Tree :=
 evGuard o.guard ts fun t ts => match t with
  | true => evOp I er wr o.op ts m fun v m => k (putT ts o.dst v) m
  | false => k (putT ts o.dst (.tup [])) m
def evOps : List XO → List A → Mem → (List A → Mem → Tree) → Tree
 | [], ts, m, k => k ts m
 | o :: r, ts, m, k => ev1op I false none o ts m fun ts m => evOps r ts m k
/-- A region that draws its order: what is taken early reads no block that the region writes. -/
def evDrawn (wr : List Nat × Nat) : DX → List A → Mem → (List A → Mem → Tree) → Tree
 | .nil, ts, m, k => k ts m
 | .op _ er o r, ts, m, k => ev1op I er (some wr) o ts m fun ts m => evDrawn wr r ts m k
 | .alt a b, ts, m, k => .both (fun _ => evDrawn wr a ts m k) (fun _ => evDrawn wr b ts m k)
/-- What a round over a map is told. -/
def rowVal (ag : Option Nat) (gs : List G) : V1 := match ag with
 | none => match gs with
  | [g] => .c (.g g)
  | _ => .c .any
 | some _ => .agg (gs.map C.g)
def roundT (ts : List A) (t1 tok t2 : Nat) (ag : Option Nat) (z : Z) (gs : List G) : List A :=
 ((ts.set t1 (.tup [.c (.g (.bool (.lit true))), .c .any, .c .any])).set tok (.one (.c (.g (.bool (.lit true)))))).set t2 (.tup [.c (.g (.int .i64 z)), rowVal ag gs])
def overT (ts : List A) (t1 tok : Nat) : List A := (ts.set t1 (.tup [.c (.g (.bool (.lit false)))])).set tok (.one (.c (.g (.bool (.lit false)))))
def ev : X → List A → Mem → (Ex → List A → Mem → Tree) → Tree
 | .skip, ts, m, k => k .normal ts m
 | .ops l, ts, m, k => evOps I l ts m fun ts m => k .normal ts m
 | .drawn _ l, ts, m, k => .drawn m fun w => evDrawn I (w, m.length) l ts m fun ts m => k .normal ts m
 | .seq a b, ts, m, k => ev a ts m fun e ts m => match e with
  | .normal => ev b ts m k
  | .exit id => k (.exit id) ts m
  | .ret => k .ret ts m
 | .cond c t e, ts, m, k => evB ts c fun b => match b with
  | true => ev t ts m k
  | false => ev e ts m k
 | .block id x, ts, m, k => ev x ts m fun e ts m => match e with
  | .exit i => match i == id with
   | true => k .normal ts m
   | false => k (.exit i) ts m
  | .normal => k .normal ts m
  | .ret => k .ret ts m
 | .loop x, ts, m, k => .loop x ts m k
 | .exit id, ts, m, k => k (.exit id) ts m
 | .ret, ts, m, k => k .ret ts m
 | .join x, ts, m, k => .join x ts m k
 | .mloop pre mp it t1 tok t2 x, ts, m, k => evOps I pre ts m fun ts m => evC ts mp fun c => match c with
  | .map b => match m[b]? with
   | some (.mp ag l) => noPair ag <| .mloop x b ag l it t1 tok t2 (ts.set it (.one (.c (.ptr m.length (.lit 0) 0 0)))) (m ++ [.dead]) (fun ts m => k .normal ts m)
   | _ => .fail
  | _ => .fail
 | .rfun c, ts, m, k => .rfun c ts m (fun ts m => k .normal ts m)
def evRes : List XRes → List A → Mem → (List V1 → Tree) → Tree
 | [], _, _, k => k []
 | .tmp t :: r, ts, m, k => ev1 ts (.tmp t) fun v => evRes r ts m fun vs => k (v :: vs)
 | .cell t ag :: r, ts, m, k => evC ts (.tmp t) fun a => ld ag a m fun v => evRes r ts m fun vs => k (v :: vs)
def evEnd (res : List XRes) (ts : List A) (m : Mem) (k : A → Mem → Tree) : Tree :=
 evRes res ts m fun vs => match vs with
  | [v] => k (.one v) m
  | vs => k (.tup vs) m
/-- A function's body from its arguments on. -/
def evF (x : XF) (args : List V1) (m : Mem) (k : A → Mem → Tree) : Tree :=
 ev I x.body (args.map .one ++ List.replicate (x.ntmps - args.length) (.one (.c .any))) m fun e ts m => match e with
  | .exit _ => .fail
  | .normal => evEnd x.res ts m k
  | .ret => evEnd x.res ts m k

/-! ### Other names for blocks -/
inductive How where
 | keep
 | rows (es : Nat)
 | bor (es : Nat)
 | frz (l : List Nat)
/-- A row that keeps no name. -/
def How.low (q : How) (b es : Nat) (l : Option (List (List G))) : C := match q, l with
 | .bor _, some l => .bor es l
 | .frz fz, some l => match fz.contains b with
  | true => .g (.rows es l)
  | false => .any
 | _, _ => .any
/-- What a function value has with it, where blocks have other names. -/
def capsInv (σ : List Nat) : List (Nat × Nat × Nat) → Option (List (Nat × Nat × Nat))
 | [] => some []
 | (b, es, j) :: r => match σ.idxOf? b, capsInv σ r with
  | some b, some l => some ((b, es, j) :: l)
  | _, _ => none
/-- A cell as it is named where block 'σ[i]' has the name 'i'; other rows are lent, or frozen, or forgotten. -/
def C.inv (σ : List Nat) (q : How) (m : Mem) (x : C) : C :=
 match x with
 | .ptr b i es j => match σ.idxOf? b with
  | some b => .ptr b i es j
  | none => .any
 | .row b es cap => match σ.idxOf? b with
  | some b => .row b es cap
  | none => q.low b es (rowsOf I es (.row b es cap) m)
 | .sl b i es n cap => match σ.idxOf? b with
  | some b => .sl b i es n cap
  | none => q.low b es (rowsOf I es (.sl b i es n cap) m)
 | .map b => match σ.idxOf? b with
  | some b => .map b
  | none => .any
 | .stamp b z => match σ.idxOf? b with
  | some b => .stamp b z
  | none => .any
 | .fn f caps => match capsInv σ caps with
  | some l => .fn f l
  | none => .any
 | .g (.rows es l) => match q with
  | .bor _ => .bor es l
  | _ => .g (.rows es l)
 | .g .nil => match q with
  | .bor es => .bor es []
  | .rows es => .g (.rows es [])
  | _ => .g .nil
 | x => x
def V1.inv (σ : List Nat) (q : How) (m : Mem) : V1 → V1
 | .c x => .c (x.inv I σ q m)
 | .agg l => .agg (l.map (C.inv I σ q m))
def A.inv (σ : List Nat) (q : How) (m : Mem) : A → A
 | .one v => .one (v.inv I σ q m)
 | .tup l => .tup (l.map (V1.inv I σ q m))
def Blk.inv (σ : List Nat) (q : How) (m : Mem) : Blk → Blk
 | .dead => .dead
 | .lit es rows => .lit es (rows.map fun r => r.map (C.inv I σ q m))
 | .sym es l => .sym es l
 | .mp ag l => .mp ag l
/-- The blocks that are named anew. -/
def invMem (σ : List Nat) (q : How) (m : Mem) : Mem := σ.map fun b => (m.getD b .dead).inv I σ q m
def invArgs (σ : List Nat) (m : Mem) : List How → List V1 → List V1
 | _, [] => []
 | [], v :: r => v.inv I σ .keep m :: invArgs σ m [] r
 | q :: qs, v :: r => v.inv I σ q m :: invArgs σ m qs r
/-- Back: name 'i' is 'σ[i]', or a new one. -/
def up (σ : List Nat) (n b : Nat) : Nat := match σ[b]? with
 | some b => b
 | none => n + (b - σ.length)
def C.up (σ : List Nat) (n : Nat) (x : C) : C :=
 match x with
 | .ptr b i es j => .ptr (E.up σ n b) i es j
 | .row b es cap => .row (E.up σ n b) es cap
 | .sl b i es k cap => .sl (E.up σ n b) i es k cap
 | .map b => .map (E.up σ n b)
 | .stamp b z => .stamp (E.up σ n b) z
 | .fn f caps => .fn f (caps.map fun c => (E.up σ n c.1, c.2.1, c.2.2))
 | .g x => .g x
 | _ => .any
def V1.up (σ : List Nat) (n : Nat) : V1 → V1
 | .c x => .c (x.up σ n)
 | .agg l => .agg (l.map (C.up σ n))
def A.up (σ : List Nat) (n : Nat) : A → A
 | .one v => .one (v.up σ n)
 | .tup l => .tup (l.map (V1.up σ n))
def Blk.up (σ : List Nat) (n : Nat) : Blk → Blk
 | .dead => .dead
 | .lit es rows => .lit es (rows.map fun r => r.map (C.up σ n))
 | .sym es l => .sym es l
 | .mp ag l => .mp ag l
def setAll : Mem → List Nat → List Blk → Mem
 | m, b :: σ, x :: r => setAll (m.set b x) σ r
 | m, _, _ => m
def kill : Mem → List Nat → Mem
 | m, [] => m
 | m, b :: r => kill (m.set b .dead) r
/-- The memory behind a call: the blocks that were handed in as they are now, and new ones. -/
def upMem (σ fz : List Nat) (m m1 : Mem) : Mem :=
 let r := m1.map (Blk.up σ m.length)
 setAll (kill m fz) σ (r.take σ.length) ++ r.drop σ.length
/-- What may leave: nothing lent. -/
def C.free : C → Bool
 | .bor _ _ => false
 | .gp _ _ => false
 | _ => true
def V1.free : V1 → Bool
 | .c x => x.free
 | .agg l => l.all C.free
def A.free : A → Bool
 | .one v => v.free
 | .tup l => l.all V1.free
def Blk.free : Blk → Bool
 | .lit _ rows => rows.all fun r => r.all C.free
 | _ => true
/-- Known numbers are letters from here on: where a loop begins. -/
def C.sy : C → C
 | .g (.int k z) => .g (.int k (.sym z.val))
 | .g (.bool b) => .g (.bool (.sym b.val))
 | x => x
def V1.sy : V1 → V1
 | .c x => .c x.sy
 | .agg l => .agg (l.map C.sy)
def A.sy : A → A
 | .one v => .one v.sy
 | .tup l => .tup (l.map V1.sy)
def Blk.sy : Blk → Blk
 | .dead => .dead
 | .lit es rows => .lit es (rows.map fun r => r.map C.sy)
 | .sym es l => .sym es l
 | .mp ag l => .mp ag l
/-- Names no row of block b. -/
def C.notRow (b : Nat) : C → Bool
 | .row b2 _ _ => !(b2 == b)
 | .sl b2 _ _ _ _ => !(b2 == b)
 | _ => true
def V1.notRow (b : Nat) : V1 → Bool
 | .c x => x.notRow b
 | .agg l => l.all (C.notRow b)
def A.notRow (b : Nat) : A → Bool
 | .one v => v.notRow b
 | .tup l => l.all (V1.notRow b)
def Blk.notRow (b : Nat) : Blk → Bool
 | .lit _ rows => rows.all fun r => r.all (C.notRow b)
 | _ => true
def maskT (keep : List Nat) (n : Nat) : List A → List A
 | [] => []
 | x :: r => (match keep.contains n with | true => x | false => .one (.c .any)) :: maskT keep (n + 1) r
end
end Go.Proofs.Ytofdnnjkfpomcaa.E

/- What abstract values and memories say of a world, and what lasts. -/
namespace Go.Proofs.Ytofdnnjkfpomcaa.E
open Go
set_option linter.unusedVariables false

structure Env where
 F : Nat → Prop
 B : Nat → Prop
 ρ : Nat → Option (Nat × Nat)

def at_ (a off : Nat) : Addr := ⟨a, off, none⟩

/-- The cells of a row's elements. -/
structure RowAt (w : World) (T : Nat → Prop) (es : Nat) (l : List (List G)) (A : Option Addr) (u : Nat → Nat → Value) : Prop where
 wid : ∀ (i : Nat) (r : List G), l[i]? = some r → r.length = es
 cell : ∀ (i : Nat) (r : List G) (j : Nat) (x : G), l[i]? = some r → r[j]? = some x → ∃ a off, A = some (at_ a off) ∧ T a ∧ w.cell? (at_ a (off + (i * es + j))) = some (u i j)
 some_ : l ≠ [] → ∃ a off, A = some (at_ a off) ∧ T a

inductive GRep (F : Nat → Prop) (w : World) : G → Value → Prop where
 | bool (b : BB) : GRep F w (.bool b) (.bool b.val)
 | int (k : IntKind) (z : Z) : GRep F w (.int k z) (.int k z.val)
 | str (s : ByteArray) : GRep F w (.str s) (.string s)
 | nilp : GRep F w .nilp (.pointer none)
 | nil : GRep F w .nil (.slice none 0 0)
 | rows {es : Nat} {l : List (List G)} {A : Option Addr} {c : Nat} (u : Nat → Nat → Value) (hc : l.length ≤ c) (hr : RowAt w F es l A u)
   (hg : ∀ (i : Nat) (r : List G) (j : Nat) (x : G), l[i]? = some r → r[j]? = some x → GRep F w x (u i j)) : GRep F w (.rows es l) (.slice A l.length c)

/-- A key, as its row tells it. -/
def kvIs (ag : Option Nat) (z : Int) (v : Value) : Prop := match ag with
 | some 0 => ∃ a b : Int, z = pairZ a b ∧ v = .agg #[.int .i64 a, .int .i64 b]
 | _ => v = .int .i64 z
/-- What a map has: of each key its row, the key first. -/
structure MapAt (w : World) (F : Nat → Prop) (ag : Option Nat) (l : List (List G)) (a : Nat) : Prop where
 ex : ∃ (es : Array MapEntry) (clock : Nat), w.heap[a]? = some (.map es clock) ∧ es.size = l.length ∧
  (∀ (i : Nat) (row : List G), l[i]? = some row → ∃ (z : Z) (gs : List G) (e : MapEntry) (us : List Value), row = .int .i64 z :: gs ∧ es[i]? = some e ∧ kvIs ag z.val e.key ∧ e.born < clock ∧
   us.length = gs.length ∧ (∀ (j : Nat) (g : G), gs[j]? = some g → ∃ u, us[j]? = some u ∧ GRep F w g u) ∧ (match vag ag with | none => us = [e.val] | some n => e.val = .agg us.toArray ∧ us.length = n)) ∧
  (∀ (i j : Nat) (e e' : MapEntry), es[i]? = some e → es[j]? = some e' → e.born = e'.born ∨ e.key = e'.key → i = j)

def Blk.live : Blk → Prop
 | .dead => False
 | _ => True
def Blk.rows : Blk → List (List C)
 | .dead => []
 | .lit _ r => r
 | .sym _ l => l.map fun r => r.map C.g
 | .mp _ _ => []

def capIs (cap : Option NN) (c : Nat) : Prop := ∀ c', cap = some c' → c = c'.val

def CRep (E : Env) (m : Mem) (w : World) : C → Value → Prop
 | .any, v => v.oneCell' = true
 | .g x, v => GRep E.F w x v
 | .bor es l, v => ∃ A c u, v = .slice A l.length c ∧ l.length ≤ c ∧ RowAt w (fun k => E.F k ∨ E.B k) es l A u ∧ ∀ (i : Nat) (r : List G) (j : Nat) (x : G), l[i]? = some r → r[j]? = some x → GRep E.F w x (u i j)
 | .gp row j, v => ∃ a off, v = .pointer (some (at_ a (off + j))) ∧ (E.F a ∨ E.B a) ∧ ∀ (j : Nat) (x : G), row[j]? = some x → ∃ u, w.cell? (at_ a (off + j)) = some u ∧ GRep E.F w x u
 | .ptr b i es j, v => b < m.length ∧ ∃ a base, E.ρ b = some (a, base) ∧ v = .pointer (some (at_ a (base + (i.val * es + j))))
 | .row b es cap, v => b < m.length ∧ v.oneCell' = true ∧ ∀ blk : Blk, m[b]? = some blk → blk.live → blk.es = es ∧ (∀ c' : NN, cap = some c' → c'.val = blk.rows.length) ∧
   ((E.ρ b = none ∧ v = .slice none 0 0) ∨ ∃ a base c, E.ρ b = some (a, base) ∧ v = .slice (some (at_ a base)) blk.rows.length c ∧ blk.rows.length ≤ c ∧ capIs cap c ∧ w.there a base (c * es))
 | .sl b i es n cap, v => b < m.length ∧ v.oneCell' = true ∧ ∀ blk : Blk, m[b]? = some blk → blk.live → blk.es = es ∧ i.val + n.val ≤ blk.rows.length ∧ (∀ c' : NN, cap = some c' → i.val + c'.val ≤ blk.rows.length) ∧
   ((E.ρ b = none ∧ v = .slice none 0 0 ∧ n.val = 0) ∨ ∃ a base c off, E.ρ b = some (a, base) ∧ v = .slice (some (at_ a off)) n.val c ∧ (0 < c → off = base + i.val * es) ∧ n.val ≤ c ∧ capIs cap c ∧ w.there a (base + i.val * es) (c * es))
 | .fn f caps, v => ∃ us : Array Value, v = .func (.func f) #[] us ∧ us.size = caps.length ∧ ∀ (i b es j : Nat), caps[i]? = some (b, es, j) → b < m.length ∧ ∃ a base, E.ρ b = some (a, base) ∧ us[i]? = some (.pointer (some (at_ a (base + (0 * es + j)))))
 | .map b, v => b < m.length ∧ ∃ a base, E.ρ b = some (a, base) ∧ v = .map (some a)
 | .stamp b z, v => b < m.length ∧ ∃ (a base born : Nat) (es : Array MapEntry) (c : Nat), E.ρ b = some (a, base) ∧ v = .int .i64 born ∧ w.heap[a]? = some (.map es c) ∧ ∃ (i : Nat) (e : MapEntry), es[i]? = some e ∧ e.born = born ∧ e.key = .int .i64 z.val

def V1Rep (E : Env) (m : Mem) (w : World) : V1 → Value → Prop
 | .c x, v => x = .any ∨ CRep E m w x v
 | .agg l, v => ∃ cs : Array Value, v = .agg cs ∧ cs.size = l.length ∧ ∀ (i : Nat) (x : C), l[i]? = some x → ∃ u, cs[i]? = some u ∧ CRep E m w x u
def ARep (E : Env) (m : Mem) (w : World) : A → Value → Prop
 | .one v, u => V1Rep E m w v u
 | .tup l, u => ∃ us : Array Value, u = .tuple us ∧ us.size = l.length ∧ ∀ (i : Nat) (v : V1), l[i]? = some v → ∃ u, us[i]? = some u ∧ V1Rep E m w v u
def TsRep (E : Env) (m : Mem) (w : World) (ts : List A) (tmps : Array Value) : Prop :=
 tmps.size = ts.length ∧ ∀ (t : Nat) (x : A), ts[t]? = some x → ARep E m w x (tmps.getD t undef)

def BRep (E : Env) (m : Mem) (w : World) (blk : Blk) (r : Option (Nat × Nat)) : Prop :=
 blk.live → (r = none ∧ blk.rows = []) ∨ ∃ a base, r = some (a, base) ∧ w.there a base (blk.rows.length * blk.es) ∧ a < w.heap.size ∧
  ∀ (i : Nat) (row : List C), blk.rows[i]? = some row → row.length = blk.es ∧ ∀ (j : Nat) (x : C), row[j]? = some x → ∃ u, w.cell? (at_ a (base + (i * blk.es + j))) = some u ∧ CRep E m w x u

structure Sat (E : Env) (m : Mem) (w : World) : Prop where
 rep : ∀ id blk, m[id]? = some blk → BRep E m w blk (E.ρ id)
 inj : ∀ i j bi bj a x y, m[i]? = some bi → m[j]? = some bj → bi.live → bj.live → E.ρ i = some (a, x) → E.ρ j = some (a, y) → i = j
 dis : ∀ i bi a x, m[i]? = some bi → bi.live → E.ρ i = some (a, x) → ¬ E.F a ∧ ¬ E.B a
 old : ∀ k, E.F k ∨ E.B k → k < w.heap.size
 maps : ∀ id ag l, m[id]? = some (.mp ag l) → ∃ a, E.ρ id = some (a, 0) ∧ a < w.heap.size ∧ MapAt w E.F ag l a

/-! ### What lasts -/
/-- Cells that were there are there, and may be written as before. -/
structure Stays (w w' : World) : Prop where
 cell : ∀ x, (w.cell? x).isSome = true → (w'.cell? x).isSome = true ∧ w'.frozen? x = w.frozen? x
 maps : ∀ (a : Nat) (es : Array MapEntry) (c : Nat), w.heap[a]? = some (.map es c) → ∃ es' c', w'.heap[a]? = some (.map es' c') ∧ ∀ (i : Nat) (e : MapEntry), es[i]? = some e → ∃ e', es'[i]? = some e' ∧ e'.key = e.key ∧ e'.born = e.born
theorem Stays.refl (w : World) : Stays w w := ⟨fun _ h => ⟨h, rfl⟩, fun a es c h => ⟨es, c, h, fun i e h => ⟨e, h, rfl, rfl⟩⟩⟩
theorem Stays.trans {w w1 w2 : World} (h : Stays w w1) (k : Stays w1 w2) : Stays w w2 := ⟨fun x hx => ⟨(k.cell x (h.cell x hx).1).1, (k.cell x (h.cell x hx).1).2.trans (h.cell x hx).2⟩, fun a es c h1 => by
 obtain ⟨es1, c1, h2, h3⟩ := h.maps a es c h1
 obtain ⟨es2, c2, h4, h5⟩ := k.maps a es1 c1 h2
 refine ⟨es2, c2, h4, fun i e hi => ?_⟩
 obtain ⟨e1, g1, g2, g3⟩ := h3 i e hi
 obtain ⟨e2, k1, k2, k3⟩ := h5 i e1 g1
 exact ⟨e2, k1, k2.trans g2, k3.trans g3⟩⟩
theorem there_stays {w w' : World} (h : Stays w w') {a o n : Nat} (ht : w.there a o n) : w'.there a o n := fun j hj => ⟨(h.cell _ (ht j hj).1).1, (h.cell _ (ht j hj).1).2.trans (ht j hj).2⟩

structure Step (E : Env) (m : Mem) (w : World) (E' : Env) (m' : Mem) (w' : World) : Prop where
 F : ∀ k, E.F k → E'.F k
 B : ∀ k, E.B k → E'.B k
 ρ : ∀ id, id < m.length → E'.ρ id = E.ρ id
 len : m.length ≤ m'.length
 shape : ∀ id blk', id < m.length → m'[id]? = some blk' → blk'.live → ∃ blk, m[id]? = some blk ∧ blk.live ∧ blk'.rows.length = blk.rows.length ∧ blk'.es = blk.es
 frz : ∀ k, E.F k ∨ E.B k → w'.heap[k]? = w.heap[k]?
 stays : Stays w w'

theorem Step.refl (E : Env) (m : Mem) (w : World) : Step E m w E m w :=
 ⟨fun _ h => h, fun _ h => h, fun _ _ => rfl, Nat.le_refl _, fun id blk' _ h hl => ⟨blk', h, hl, rfl, rfl⟩, fun _ _ => rfl, Stays.refl w⟩
theorem Step.trans {E E1 E2 : Env} {m m1 m2 : Mem} {w w1 w2 : World} (h : Step E m w E1 m1 w1) (k : Step E1 m1 w1 E2 m2 w2) : Step E m w E2 m2 w2 where
 F := fun i hi => k.F i (h.F i hi)
 B := fun i hi => k.B i (h.B i hi)
 ρ := fun id hid => (k.ρ id (Nat.lt_of_lt_of_le hid h.len)).trans (h.ρ id hid)
 len := Nat.le_trans h.len k.len
 shape := fun id blk' hid hb hl => by
  obtain ⟨b1, h1, h2, h3, h4⟩ := k.shape id blk' (Nat.lt_of_lt_of_le hid h.len) hb hl
  obtain ⟨b0, g1, g2, g3, g4⟩ := h.shape id b1 hid h1 h2
  exact ⟨b0, g1, g2, h3.trans g3, h4.trans g4⟩
 frz := fun i hi => (k.frz i (hi.imp (h.F i) (h.B i))).trans (h.frz i hi)
 stays := h.stays.trans k.stays

theorem cell_frz {w w' : World} {a o : Nat} (h : w'.heap[a]? = w.heap[a]?) : w'.cell? (at_ a o) = w.cell? (at_ a o) := World.cell?_of_block h
theorem RowAt.step {w w' : World} {T T' : Nat → Prop} {es : Nat} {l : List (List G)} {A : Option Addr} {u : Nat → Nat → Value} (h : RowAt w T es l A u) (hT : ∀ k, T k → T' k) (hw : ∀ k, T k → w'.heap[k]? = w.heap[k]?) : RowAt w' T' es l A u where
 wid := h.wid
 cell := fun i r j x hi hj => by
  obtain ⟨a, off, h1, h2, h3⟩ := h.cell i r j x hi hj
  exact ⟨a, off, h1, hT a h2, (cell_frz (hw a h2)).trans h3⟩
 some_ := fun hne => let ⟨a, off, h1, h2⟩ := h.some_ hne; ⟨a, off, h1, hT a h2⟩
theorem GRep.step {F F' : Nat → Prop} {w w' : World} (hF : ∀ k, F k → F' k) (hw : ∀ k, F k → w'.heap[k]? = w.heap[k]?) {x : G} {v : Value} (h : GRep F w x v) : GRep F' w' x v := by
 induction h with
 | bool b => exact .bool b
 | int k z => exact .int k z
 | str s => exact .str s
 | nilp => exact .nilp
 | nil => exact .nil
 | rows u hc hr hg ih => exact .rows u hc (hr.step hF hw) ih
theorem MapAt.lt {F : Nat → Prop} {w : World} {ag : Option Nat} {l : List (List G)} {a : Nat} (h : MapAt w F ag l a) : a < w.heap.size := by
 obtain ⟨es, clock, h1, _⟩ := h.ex
 exact (Array.getElem?_eq_some_iff.1 h1).1
theorem MapAt.step {F F' : Nat → Prop} {w w' : World} {ag : Option Nat} {l : List (List G)} {a a' : Nat} (hF : ∀ k, F k → F' k) (hw : ∀ k, F k → w'.heap[k]? = w.heap[k]?) (ha : w'.heap[a']? = w.heap[a]?) (h : MapAt w F ag l a) : MapAt w' F' ag l a' := by
 obtain ⟨es, clock, h1, h2, h3, h4⟩ := h.ex
 refine ⟨es, clock, ha.trans h1, h2, fun i row hi => ?_, h4⟩
 obtain ⟨z, gs, e, us, g1, g2, g3, g4, g5, g6, g7⟩ := h3 i row hi
 exact ⟨z, gs, e, us, g1, g2, g3, g4, g5, fun j g hj => let ⟨u, k1, k2⟩ := g6 j g hj; ⟨u, k1, k2.step hF hw⟩, g7⟩
theorem GRep.one {F : Nat → Prop} {w : World} {x : G} {v : Value} (h : GRep F w x v) : v.oneCell' = true := by cases h <;> rfl

section
variable {E E' : Env} {m m' : Mem} {w w' : World}
theorem CRep.one {x : C} {v : Value} (h : CRep E m w x v) : v.oneCell' = true := by
 cases x with
 | any => exact h
 | g x => exact GRep.one h
 | bor es l => obtain ⟨A, c, u, rfl, _⟩ := h; rfl
 | gp row j => obtain ⟨a, off, rfl, _⟩ := h; rfl
 | ptr b i es j => obtain ⟨_, a, base, _, rfl⟩ := h; rfl
 | row b es cap => exact h.2.1
 | sl b i es n cap => exact h.2.1
 | fn f l => obtain ⟨us, rfl, _⟩ := h; rfl
 | map b => obtain ⟨_, a, base, _, rfl⟩ := h; rfl
 | stamp b z => obtain ⟨_, a, base, born, es, c, _, rfl, _⟩ := h; rfl
theorem CRep.step (h : Step E m w E' m' w') {x : C} {v : Value} (hx : CRep E m w x v) : CRep E' m' w' x v := by
 cases x with
 | any => exact hx
 | g x => exact GRep.step h.F (fun k hk => h.frz k (.inl hk)) hx
 | bor es l =>
  obtain ⟨A, c, u, h1, h2, h3, h4⟩ := hx
  exact ⟨A, c, u, h1, h2, h3.step (fun k hk => hk.imp (h.F k) (h.B k)) h.frz, fun i r j x hi hj => GRep.step h.F (fun k hk => h.frz k (.inl hk)) (h4 i r j x hi hj)⟩
 | gp row j =>
  obtain ⟨a, off, h1, h2, h3⟩ := hx
  refine ⟨a, off, h1, h2.imp (h.F a) (h.B a), fun j x hj => ?_⟩
  obtain ⟨u, h4, h5⟩ := h3 j x hj
  exact ⟨u, (cell_frz (h.frz a h2)).trans h4, GRep.step h.F (fun k hk => h.frz k (.inl hk)) h5⟩
 | ptr b i es j =>
  obtain ⟨h0, a, base, h1, h2⟩ := hx
  exact ⟨Nat.lt_of_lt_of_le h0 h.len, a, base, (h.ρ b h0).trans h1, h2⟩
 | row b es cap =>
  obtain ⟨h0, ho, hx⟩ := hx
  refine ⟨Nat.lt_of_lt_of_le h0 h.len, ho, fun blk' hb hl => ?_⟩
  obtain ⟨blk, g1, g2, g3, g4⟩ := h.shape b blk' h0 hb hl
  obtain ⟨k1, k2, k3⟩ := hx blk g1 g2
  rw [h.ρ b h0, g3, g4]
  refine ⟨k1, k2, k3.imp id ?_⟩
  rintro ⟨a, base, c, e1, e2, e3, e4, e5⟩
  exact ⟨a, base, c, e1, e2, e3, e4, there_stays h.stays e5⟩
 | sl b i es n cap =>
  obtain ⟨h0, ho, hx⟩ := hx
  refine ⟨Nat.lt_of_lt_of_le h0 h.len, ho, fun blk' hb hl => ?_⟩
  obtain ⟨blk, g1, g2, g3, g4⟩ := h.shape b blk' h0 hb hl
  obtain ⟨k1, k2, k3, k4⟩ := hx blk g1 g2
  rw [h.ρ b h0, g3, g4]
  refine ⟨k1, k2, k3, k4.imp id ?_⟩
  rintro ⟨a, base, c, off, e1, e2, e3, e4, e5, e6⟩
  exact ⟨a, base, c, off, e1, e2, e3, e4, e5, there_stays h.stays e6⟩
 | fn f l =>
  obtain ⟨us, h1, h2, h3⟩ := hx
  exact ⟨us, h1, h2, fun i b es j hi => let ⟨h4, a, base, h5, h6⟩ := h3 i b es j hi; ⟨Nat.lt_of_lt_of_le h4 h.len, a, base, (h.ρ b h4).trans h5, h6⟩⟩
 | map b =>
  obtain ⟨h0, a, base, h1, h2⟩ := hx
  exact ⟨Nat.lt_of_lt_of_le h0 h.len, a, base, (h.ρ b h0).trans h1, h2⟩
 | stamp b z =>
  obtain ⟨h0, a, base, born, es, c, h1, h2, h3, i, e, h4, h5, h6⟩ := hx
  obtain ⟨es', c', g1, g2⟩ := h.stays.maps a es c h3
  obtain ⟨e', k1, k2, k3⟩ := g2 i e h4
  exact ⟨Nat.lt_of_lt_of_le h0 h.len, a, base, born, es', c', (h.ρ b h0).trans h1, h2, g1, i, e', k1, k3.trans h5, k2.trans h6⟩
theorem V1Rep.step (h : Step E m w E' m' w') {x : V1} {v : Value} (hx : V1Rep E m w x v) : V1Rep E' m' w' x v := by
 cases x with
 | c x => exact hx.imp id (CRep.step h)
 | agg l =>
  obtain ⟨cs, h1, h2, h3⟩ := hx
  exact ⟨cs, h1, h2, fun i x hi => let ⟨u, h4, h5⟩ := h3 i x hi; ⟨u, h4, h5.step h⟩⟩
theorem ARep.step (h : Step E m w E' m' w') {x : A} {v : Value} (hx : ARep E m w x v) : ARep E' m' w' x v := by
 cases x with
 | one v => exact V1Rep.step h hx
 | tup l =>
  obtain ⟨cs, h1, h2, h3⟩ := hx
  exact ⟨cs, h1, h2, fun i x hi => let ⟨u, h4, h5⟩ := h3 i x hi; ⟨u, h4, h5.step h⟩⟩
theorem TsRep.step (h : Step E m w E' m' w') {ts : List A} {tmps : Array Value} (hx : TsRep E m w ts tmps) : TsRep E' m' w' ts tmps :=
 ⟨hx.1, fun t x ht => (hx.2 t x ht).step h⟩
theorem TsRep.put {ts : List A} {tmps : Array Value} (h : TsRep E m w ts tmps) {x : A} {v : Value} (hx : ARep E m w x v) (d : Nat) : TsRep E m w (ts.set d x) (tmps.setIfInBounds d v) := by
 refine ⟨by simpa using h.1, fun t y ht => ?_⟩
 rw [List.getElem?_set] at ht
 by_cases hd : d = t
 ·subst hd
  by_cases hl : d < ts.length
  ·simp only [hl, if_true, Option.some.injEq] at ht
   subst ht
   have : d < tmps.size := by rw [h.1]; exact hl
   simpa [Array.getD_eq_getD_getElem?, this] using hx
  ·simp [hl] at ht
 ·simp only [hd, if_false] at ht
  have := h.2 t y ht
  simpa [Array.getD_eq_getD_getElem?, Array.getElem?_setIfInBounds_ne hd] using this
theorem BRep.step_rep (h : Step E m w E' m' w') {blk : Blk} {a base : Nat} (hh : w'.heap[a]? = w.heap[a]?) (hs : w.heap.size ≤ w'.heap.size) (hb : BRep E m w blk (some (a, base))) : BRep E' m' w' blk (some (a, base)) := by
 intro hl
 refine (hb hl).imp id ?_
 rintro ⟨a', base', e, h1, h2, h3⟩
 cases e
 refine ⟨a, base, rfl, there_stays h.stays h1, by omega, fun i row hi => ⟨(h3 i row hi).1, fun j x hj => ?_⟩⟩
 obtain ⟨u, h4, h5⟩ := (h3 i row hi).2 j x hj
 exact ⟨u, (cell_frz hh).trans h4, h5.step h⟩
end

/-- The blocks that may be written. -/
def Foot (Wt : Nat → Prop) (E : Env) (m : Mem) (k : Nat) : Prop := ∃ id blk x, m[id]? = some blk ∧ blk.live ∧ Wt id ∧ E.ρ id = some (k, x)

structure Grow (Wt : Nat → Prop) (E : Env) (m : Mem) (w : World) (E' : Env) (m' : Mem) (w' : World) : Prop extends Step E m w E' m' w' where
 B' : ∀ k, E'.B k → E.B k
 os : w'.os = w.os
 tape : w'.tape = w.tape
 output : w'.output = w.output
 size : w.heap.size ≤ w'.heap.size
 block : ∀ k, k < w.heap.size → ¬ Foot Wt E m k → w'.heap[k]? = w.heap[k]?
 newF : ∀ k, E'.F k → E.F k ∨ w.heap.size ≤ k ∨ Foot (fun _ => True) E m k
 newρ : ∀ id a x blk, m.length ≤ id → m'[id]? = some blk → blk.live → E'.ρ id = some (a, x) → w.heap.size ≤ a ∨ Foot Wt E m a

section
variable {E E' E1 E2 : Env} {m m' m1 m2 : Mem} {w w' w1 w2 : World} {Wt Wt' : Nat → Prop}
theorem Foot.mono (h : ∀ i, Wt i → Wt' i) {k : Nat} (hf : Foot Wt E m k) : Foot Wt' E m k := let ⟨id, blk, x, h1, h2, h3, h4⟩ := hf; ⟨id, blk, x, h1, h2, h id h3, h4⟩
theorem Grow.refl (Wt : Nat → Prop) (E : Env) (m : Mem) (w : World) : Grow Wt E m w E m w where
 toStep := Step.refl E m w
 B' := fun _ h => h
 os := rfl
 tape := rfl
 output := rfl
 size := Nat.le_refl _
 block := fun _ _ _ => rfl
 newF := fun _ h => .inl h
 newρ := fun id a x blk h1 h2 => by rw [List.getElem?_eq_none (by omega)] at h2; cases h2
/-- A block that may be written now might be written then, or is new. -/
theorem Grow.foot (h : Grow Wt E m w E1 m1 w1) (hW : ∀ id, id < m.length → Wt' id → Wt id) {k : Nat} (hf : Foot Wt' E1 m1 k) : w.heap.size ≤ k ∨ Foot Wt E m k := by
 obtain ⟨id, blk, x, h1, h2, h3, h4⟩ := hf
 rcases Nat.lt_or_ge id m.length with hid | hid
 ·obtain ⟨b0, g1, g2, _, _⟩ := h.shape id blk hid h1 h2
  exact .inr ⟨id, b0, x, g1, g2, hW id hid h3, (h.ρ id hid) ▸ h4⟩
 ·exact h.newρ id k x blk hid h1 h2 h4
theorem Grow.mono (h : Grow Wt E m w E1 m1 w1) (hW : ∀ id, Wt id → Wt' id) : Grow Wt' E m w E1 m1 w1 where
 toStep := h.toStep
 B' := h.B'
 os := h.os
 tape := h.tape
 output := h.output
 size := h.size
 block := fun k hk hn => h.block k hk fun hf => hn (hf.mono hW)
 newF := h.newF
 newρ := fun id a x blk h1 h2 h3 h4 => (h.newρ id a x blk h1 h2 h3 h4).imp (fun h => h) (Foot.mono hW)
theorem Grow.trans (h : Grow Wt E m w E1 m1 w1) (k : Grow Wt' E1 m1 w1 E2 m2 w2) (hW : ∀ id, id < m.length → Wt' id → Wt id) : Grow Wt E m w E2 m2 w2 where
 toStep := h.toStep.trans k.toStep
 B' := fun i hi => h.B' i (k.B' i hi)
 os := k.os.trans h.os
 tape := k.tape.trans h.tape
 output := k.output.trans h.output
 size := Nat.le_trans h.size k.size
 block := fun i hi hn => (k.block i (Nat.lt_of_lt_of_le hi h.size) (fun hf => by
  rcases h.foot hW hf with h1 | h1
  ·omega
  ·exact hn h1)).trans (h.block i hi hn)
 newF := fun i hi => by
  rcases k.newF i hi with h1 | h1 | h1
  ·exact h.newF i h1
  ·exact .inr (.inl (Nat.le_trans h.size h1))
  ·refine .inr (((h.mono (Wt' := fun _ => True) (fun _ _ => trivial)).foot (Wt' := fun _ => True) (fun _ _ _ => trivial) h1))
 newρ := fun id a x blk h1 h2 h3 h4 => by
  rcases Nat.lt_or_ge id m1.length with hid | hid
  ·obtain ⟨b0, g1, g2, _, _⟩ := k.shape id blk hid h2 h3
   exact h.newρ id a x b0 h1 g1 g2 ((k.ρ id hid) ▸ h4)
  ·rcases k.newρ id a x blk hid h2 h3 h4 with h5 | h5
   ·exact .inl (Nat.le_trans h.size h5)
   ·exact h.foot hW h5
end

/-! ### Known numbers as letters -/
theorem G_sy {F : Nat → Prop} {w : World} {x : G} {u : Value} (h : GRep F w x u) : GRep F w x.sy u := by
 cases h with
 | bool b => exact .bool (.sym b.val)
 | int k z => exact .int k (.sym z.val)
 | str s => exact .str s
 | nilp => exact .nilp
 | nil => exact .nil
 | rows u hc hr hg => exact .rows u hc hr hg
theorem C_sy {E : Env} {m : Mem} {w : World} {x : C} {u : Value} (h : CRep E m w x u) : CRep E m w x.sy u := by
 cases x with
 | g x =>
  cases x with
  | bool b => generalize u = v at h; cases h; exact .bool (.sym b.val)
  | int k z => generalize u = v at h; cases h; exact .int k (.sym z.val)
  | _ => exact h
 | _ => exact h
theorem V1_sy {E : Env} {m : Mem} {w : World} {x : V1} {u : Value} (h : V1Rep E m w x u) : V1Rep E m w x.sy u := by
 cases x with
 | c x =>
  rcases h with rfl | h
  ·exact .inl rfl
  ·exact .inr (C_sy h)
 | agg l =>
  obtain ⟨cs, h1, h2, h3⟩ := h
  refine ⟨cs, h1, by simp [h2], fun i x hi => ?_⟩
  rw [List.getElem?_map] at hi
  obtain ⟨y, hy, rfl⟩ := Option.map_eq_some_iff.1 hi
  obtain ⟨u, h4, h5⟩ := h3 i y hy
  exact ⟨u, h4, C_sy h5⟩

/-! ### What a function does -/
def LValid (P : Program) (f : FuncId) (args : List V1) (m : Mem) (R : A → Mem → Prop) : Prop :=
 ∀ (E : Env) (w : World) (vs : Array Value), Sat E m w → vs.size = args.length → (∀ (i : Nat) (x : V1), args[i]? = some x → ∃ u, vs[i]? = some u ∧ V1Rep E m w x u) →
  Calls P f vs w fun e w' => ∃ u v m' E', e = .returned u ∧ R v m' ∧ ARep E' m' w' v u ∧ v.free = true ∧ (∀ (id : Nat) (blk : Blk), m'[id]? = some blk → blk.free = true) ∧ Sat E' m' w' ∧ Grow (fun _ => True) E m w E' m' w'

/-- No deferred calls but those of ranges over functions that are over: their blocks are told for good. -/
def DefOK (E : Env) (w : World) (a : Act) : Prop := ∃ Ds : List Nat, Ds.Nodup ∧ a.defers = Ds.map (fun D => ({ target := .collected D, args := #[] } : Deferred)) ∧ ∀ D ∈ Ds, E.F D ∧ w.heap[D]? = some (.deferred (some []))
structure At (E : Env) (m : Mem) (w : World) (ts : List A) (a : Act) : Prop where
 sat : Sat E m w
 ts : TsRep E m w ts a.tmps
 defers : DefOK E w a
theorem DefOK.mono {E E' : Env} {w w' : World} {a : Act} (hF : ∀ k, E.F k → E'.F k) (hw : ∀ k, E.F k → w'.heap[k]? = w.heap[k]?) (h : DefOK E w a) : DefOK E' w' a :=
 let ⟨Ds, h1, h2, h3⟩ := h
 ⟨Ds, h1, h2, fun D hD => ⟨hF D (h3 D hD).1, (hw D (h3 D hD).1).trans (h3 D hD).2⟩⟩
theorem DefOK.step {E E' : Env} {m m' : Mem} {w w' : World} {a : Act} (h : Step E m w E' m' w') (hd : DefOK E w a) : DefOK E' w' a := hd.mono h.F fun k hk => h.frz k (.inl hk)
theorem DefOK.put {E : Env} {w : World} {a : Act} (h : DefOK E w a) (d : Option Nat) (v : Value) : DefOK E w (a.put d v) :=
 let ⟨Ds, h1, h2, h3⟩ := h
 ⟨Ds, h1, (by cases d <;> exact h2), h3⟩
theorem DefOK.nil {E : Env} {w : World} {a : Act} (h : a.defers = []) : DefOK E w a := ⟨[], List.nodup_nil, h, fun D hD => by cases hD⟩
/-- What a range over a function does, all of it. -/
def RSpec (P : Program) (c : Code) (ts : List A) (m : Mem) (R : List A → Mem → Prop) : Prop :=
 ∀ (E : Env) (w : World) (a : Act) (Q : Exit → Act → World → Prop), At E m w ts a →
  (∀ (E' : Env) (m' : Mem) (w' : World) (ts' : List A) (a' : Act), R ts' m' → At E' m' w' ts' a' → Grow (fun _ => True) E m w E' m' w' → (∀ D : Nat, ({ target := .collected D, args := #[] } : Deferred) ∈ a'.defers → ({ target := .collected D, args := #[] } : Deferred) ∈ a.defers ∨ w.heap.size ≤ D) → Q .normal a' w') → c.wp P Q a w

/-- A function that a function value may name. -/
def callable (P : Program) (f : FuncId) : Bool := match P.funcs[f]? with
 | some fn => !(fn.name == "runtime.NumGoroutine") && fn.body.isSome
 | none => false
/-- What names no memory. -/
def V1.plain : V1 → Bool
 | .c (.g (.bool _)) => true
 | .c (.g (.int _ _)) => true
 | .c (.g (.str _)) => true
 | .c (.g .nilp) => true
 | .c (.g .nil) => true
 | _ => false
def A.plain : A → Bool
 | .one v => v.plain
 | .tup l => l.all V1.plain
/-- What a proof shows of a tree. -/
inductive Holds (P : Program) (I : Ints) : Nat → Tree → Prop where
 | goal {p : Nat} {c : Prop} (h : c) : Holds P I p (.goal c)
 | br {p : Nat} {b : Bool} {t e : Unit → Tree} (h1 : b = true → Holds P I p (t ())) (h2 : b = false → Holds P I p (e ())) : Holds P I p (.br b t e)
 | idx {p : Nat} {z : Int} {n : Nat} {k : Nat → Tree} (i : Nat) (h1 : z = (i : Int)) (h2 : i < n) (h : Holds P I p (k i)) : Holds P I p (.idx z n k)
 | rng {p : Nat} {lo hi : Option Int} {n : Nat} {k : Nat → Nat → Tree} (l h : Nat) (h1 : lo.getD 0 = (l : Int)) (h2 : hi.getD n = (h : Int)) (h3 : l ≤ h) (h4 : h ≤ n) (hk : Holds P I p (k l h)) : Holds P I p (.rng lo hi n k)
 | nth {p : Nat} {l : List (List G)} {i : Nat} {k : List G → Tree} (r : List G) (h1 : l[i]? = some r) (h : Holds P I p (k r)) : Holds P I p (.nth l i k)
 | isnil {p : Nat} {l : List (List G)} {t e : Unit → Tree} (h1 : l = [] → Holds P I p (t ())) (h2 : Holds P I p (e ())) : Holds P I p (.isnil l t e)
 | nz {p : Nat} {z : Int} {k : Unit → Tree} (h1 : z ≠ 0) (h : Holds P I p (k ())) : Holds P I p (.nz z k)
 | nonneg {p : Nat} {z : Int} {k : Unit → Tree} (h1 : 0 ≤ z) (h : Holds P I p (k ())) : Holds P I p (.nonneg z k)
 | size {p : Nat} {z : Int} {bytes : Nat} {k : Nat → Tree} (n : Nat) (h1 : z = (n : Int)) (h2 : n * bytes ≤ 140737488355328) (h : Holds P I p (k n)) : Holds P I p (.size z bytes k)
 | most {p : Nat} {n bytes : Nat} {k : Unit → Tree} (h1 : n * bytes ≤ 140737488355328) (h2 : n ≤ 140737488355328) (h : Holds P I p (k ())) : Holds P I p (.most n bytes k)
 | own {p : Nat} {x : X} {ts : List A} {m : Mem} {k : Ex → List A → Mem → Tree} (t es : Nat) (ht : ts[t]? = some (.one (.c (.g .nil)))) (h : Holds P I p (.loop x (ts.set t (.one (.c (.row m.length es none)))) (m ++ [.sym es []]) k)) : Holds P I p (.loop x ts m k)
 | ownc {p : Nat} {x : X} {ts : List A} {m : Mem} {k : Ex → List A → Mem → Tree} (b es i j es' : Nat) (rows : List (List C)) (row : List C) (hb : m[b]? = some (.lit es rows)) (hi : rows[i]? = some row) (hj : row[j]? = some (.g .nil))
   (h : Holds P I p (.loop x ts ((m.set b (.lit es (rows.set i (row.set j (.row m.length es' none))))) ++ [.sym es' []]) k)) : Holds P I p (.loop x ts m k)
 | bytes {p : Nat} {l : List (List G)} {k : Unit → Tree} (h1 : ∀ (i : Nat) (r : List G), l[i]? = some r → ∃ z, r = [.int .u8 z]) (h : Holds P I p (k ())) : Holds P I p (.bytes l k)
 | both {p : Nat} {t e : Unit → Tree} (h1 : Holds P I p (t ())) (h2 : Holds P I p (e ())) : Holds P I p (.both t e)
 | find {p : Nat} {l : List (List G)} {z : Int} {k : Option (List G) → Tree} (r : Option (List G)) (h1 : mfind l z = r) (h : Holds P I p (k r)) : Holds P I p (.find l z k)
 | fnok {p : Nat} {f : FuncId} {k : Unit → Tree} (h1 : callable P f = true) (h : Holds P I p (k ())) : Holds P I p (.fnok f k)
 | drawn {p : Nat} {m : Mem} {k : List Nat → Tree} (W : List Nat) (h : Holds P I p (k W)) : Holds P I p (.drawn m k)
 | loop {p : Nat} {x : X} {ts : List A} {m : Mem} {k : Ex → List A → Mem → Tree} (Inv : Nat → List A → Mem → Prop) (n : Nat) (ts0 : List A) (m0 : Mem) (σ fz : List Nat) (keep : List Nat)
   (hσ : σ.Nodup) (hp : σ.take p = List.range p) (ht : ts0 = ((maskT keep 0 ts).map (A.inv I σ (.frz fz) m)).map A.sy) (hm : m0 = (invMem I σ (.frz fz) m).map Blk.sy) (h0 : Inv n ts0 m0)
   (h : ∀ (n : Nat) (ts : List A) (m : Mem), Inv n ts m → Holds P I p (ev I x ts m fun e ts m => match e with
     | .normal => .goal (∃ (n' : Nat) (ts1 : List A) (m1 : Mem) (σ fz : List Nat) (keep : List Nat), n' < n ∧ σ.Nodup ∧ σ.take p = List.range p ∧ ts1 = ((maskT keep 0 ts).map (A.inv I σ (.frz fz) m)).map A.sy ∧ m1 = (invMem I σ (.frz fz) m).map Blk.sy ∧ Inv n' ts1 m1)
     | .exit i => k (.exit i) ts m
     | .ret => k .ret ts m)) : Holds P I p (.loop x ts m k)
 | pass {p : Nat} {x : X} {ts : List A} {m : Mem} {k : Ex → List A → Mem → Tree} (h : Holds P I p (ev I x ts m k)) : Holds P I p (.join x ts m k)
 | join {p : Nat} {x : X} {ts : List A} {m : Mem} {k : Ex → List A → Mem → Tree} (Post : List A → Mem → Prop)
   (h1 : Holds P I p (ev I x ts m fun e ts m => match e with
     | .normal => .goal (∃ (ts1 : List A) (m1 : Mem) (σ fz : List Nat) (keep : List Nat), σ.Nodup ∧ σ.take p = List.range p ∧ ts1 = ((maskT keep 0 ts).map (A.inv I σ (.frz fz) m)).map A.sy ∧ m1 = (invMem I σ (.frz fz) m).map Blk.sy ∧ Post ts1 m1)
     | .exit i => k (.exit i) ts m
     | .ret => k .ret ts m))
   (h2 : ∀ (ts : List A) (m : Mem), Post ts m → Holds P I p (k .normal ts m)) : Holds P I p (.join x ts m k)
 /-- A range over a map: block b' of the round's memory is the map, which the body neither reads nor writes, block bit the iterator. -/
 | mloop {p : Nat} {x : X} {b : Nat} {ag : Option Nat} {l : List (List G)} {it t1 tok t2 : Nat} {ts : List A} {m : Mem} {k : List A → Mem → Tree} (Inv : List A → Mem → Prop) (ts0 : List A) (m0 : Mem) (σ fz keep : List Nat) (b' bit : Nat)
   (hσ : σ.Nodup) (hp : σ.take p = List.range p) (hb : σ[b']? = some b) (hbt : σ[bit]? = some (m.length - 1)) (ht : ts0 = ((maskT keep 0 ts).map (A.inv I σ (.frz fz) m)).map A.sy) (hm : m0 = (invMem I σ (.frz fz) m).map Blk.sy) (h0 : Inv ts0 m0)
   (hm1 : ∀ (ts : List A) (m : Mem), Inv ts m → m[b']? = some (.mp ag l) ∧ m[bit]? = some .dead ∧ ts[it]? = some (.one (.c (.ptr bit (.lit 0) 0 0))) ∧ t1 < ts.length ∧ tok < ts.length)
   (hbody : ∀ (ts : List A) (m : Mem), Inv ts m → ∀ (i : Nat) (z : Z) (gs : List G), l[i]? = some (.int .i64 z :: gs) → Holds P I m.length (ev I x (roundT ts t1 tok t2 ag z gs) (m.set b' .dead) fun e ts1 m1 => match e with
    | .normal => .goal (∃ (ts2 : List A) (m2 : Mem) (σ fz keep : List Nat), σ.Nodup ∧ σ.take p = List.range p ∧ σ[b']? = some b' ∧ σ[bit]? = some bit ∧ ts1.all (A.notRow b') = true ∧ m1.all (Blk.notRow b') = true ∧
      ts2 = ((maskT keep 0 ts1).map (A.inv I σ (.frz fz) (m1.set b' (.mp ag l)))).map A.sy ∧ m2 = (invMem I σ (.frz fz) (m1.set b' (.mp ag l))).map Blk.sy ∧ Inv ts2 m2)
    | .exit _ => .fail
    | .ret => .fail))
   (hend : ∀ (ts : List A) (m : Mem), Inv ts m → Holds P I p (k (overT ts t1 tok) m)) : Holds P I p (.mloop x b ag l it t1 tok t2 ts m k)
 | rfun {p : Nat} {c : Code} {ts : List A} {m : Mem} {k : List A → Mem → Tree} (R : List A → Mem → Prop) (hs : RSpec P c ts m R) (h : ∀ (ts : List A) (m : Mem), R ts m → Holds P I p (k ts m)) : Holds P I p (.rfun c ts m k)
 | call {p : Nat} {f : FuncId} {args : List V1} {m : Mem} {wr : Option (List Nat × Nat)} {k : A → Mem → Tree} (σ fz : List Nat) (qs : List How) (args' : List V1) (m0 : Mem) (R : A → Mem → Prop)
   (hc : LValid P f args' m0 R) (hσ : σ.Nodup) (hw : ∀ b ∈ σ ++ fz, okW wr b = true ∧ b < m.length) (hfz : ∀ b ∈ fz, b ∉ σ) (hq : ∀ q ∈ qs, ∀ l, q = .frz l → ∀ b ∈ l, b ∈ fz)
   (ha : args' = invArgs I σ m qs args) (hm : m0 = invMem I σ .keep m)
   (h : ∀ v m1, R v m1 → Holds P I p (k (v.up σ m.length) (upMem σ fz m m1))) : Holds P I p (.call f args m wr k)
 | callR {p : Nat} {f : FuncId} {args : List V1} {m : Mem} {wr : Option (List Nat × Nat)} {k : A → Mem → Tree} (σ1 fz1 fz : List Nat) (qs : List How) (args' : List V1) (R : A → Mem → Prop)
   (hc : LValid P f args' [] R) (hσ : σ1.Nodup) (hq : ∀ q ∈ qs, ∀ l, q = .frz l → ∀ b ∈ l, b ∈ fz)
   (ha : args' = invArgs I [] (invMem I σ1 (.frz fz1) m) qs (args.map (V1.inv I σ1 (.frz fz1) m))) (hp : ∀ v m1, R v m1 → v.plain = true) (h : ∀ v m1, R v m1 → Holds P I p (k v m)) : Holds P I p (.call f args m wr k)
end Go.Proofs.Ytofdnnjkfpomcaa.E

/- Compact code out of the program's, and what operations that leave the memory alone do. -/
namespace Go.Proofs.Ytofdnnjkfpomcaa.E
open Go
set_option linter.unusedVariables false

/-! ### Compact code -/
def cst : Value → Option C
 | .bool b => some (.g (.bool (.lit b)))
 | .int k n => some (.g (.int k (.lit n)))
 | .string s => some (.g (.str s))
 | .pointer none => some (.g .nilp)
 | .slice none 0 0 => some (.g .nil)
 | _ => none
/-- Noughts: what has no name is a letter. -/
def zcst (v : Value) : Option C := match v with
 | .map none => some .any
 | .nilFunc => some .any
 | v => cst v
def csts : List Value → Option (List C)
 | [] => some []
 | v :: r => match zcst v, csts r with
  | some x, some l => some (x :: l)
  | _, _ => none
def opd : Operand → Option Opd
 | .tmp t => some (.tmp t)
 | .const v => match zcst v with
  | some c => some (.cst c)
  | none => none
 | .func f => some (.cst (.fn f []))
 | .global _ => none
def opds : List Operand → Option (List Opd)
 | [] => some []
 | x :: r => match opd x, opds r with
  | some x, some l => some (x :: l)
  | _, _ => none
/-- The cells of a type's nought. -/
def zero (P : Program) (t : TypeId) : Option (List C) :=
 match P.info? t with
 | some i => match i.zero with
  | some z => match z.cells.size == i.size with
   | true => csts z.cells.toList
   | false => none
  | none => none
 | none => none
def size? (P : Program) (t : TypeId) : Option Nat := (P.info? t).map (·.size)
/-- How a variable of the type is read: one cell, or so many. -/
def agOf (P : Program) (t : TypeId) : Option (Option Nat) :=
 match P.underlying t with
 | some (.struct _) => (size? P t).map some
 | some (.array _ _) => (size? P t).map some
 | some _ => some none
 | none => none
def isArith : BinOp → Bool
 | .add | .sub | .mul | .and | .or | .xor | .andNot => true
 | _ => false
def isDiv : BinOp → Bool
 | .quo | .rem => true
 | _ => false
def isShift : BinOp → Bool
 | .shl | .shr => true
 | _ => false
def isCmp : BinOp → Bool
 | .eql | .neq | .lss | .leq | .gtr | .geq => true
 | _ => false
/-- The fields of a struct that is compared cell by cell: numbers and bools alone, one behind the other. -/
def flat (P : Program) : List Field → Nat → Option (List Bool)
 | [], _ => some []
 | f :: r, n => match P.underlying f.type, f.offset == n, f.name == "_" with
  | some (.int _), true, false => match flat P r (n + 1) with
   | some l => some (false :: l)
   | none => none
  | some .bool, true, false => match flat P r (n + 1) with
   | some l => some (true :: l)
   | none => none
  | _, _, _ => none
def compBin (P : Program) (op : BinOp) (t : TypeId) (x y : Opd) : Option XOp :=
 match P.underlying t with
 | some (.int _) => match isArith op, isDiv op, isShift op, isCmp op with
  | true, _, _, _ => some (.bin op x y)
  | _, true, _, _ => some (.div op x y)
  | _, _, true, _ => some (.shift op x y)
  | _, _, _, true => some (.cmp op x y)
  | _, _, _, _ => none
 | some .bool => match op with
  | .eql => some (.eq false .bool x y)
  | .neq => some (.eq true .bool x y)
  | _ => none
 | some (.pointer _) => match op with
  | .eql => some (.eq false .ptr x y)
  | .neq => some (.eq true .ptr x y)
  | _ => none
 | some .string => match op with
  | .eql => some (.eq false .str x y)
  | .neq => some (.eq true .str x y)
  | _ => none
 | some (.slice _) => match op, y with
  | .eql, .cst (.g .nil) => some (.isNil false x)
  | .neq, .cst (.g .nil) => some (.isNil true x)
  | _, _ => none
 | some (.struct fs) => match flat P fs.toList 0, P.eqGuardType P.depth t, P.stoodInHeld t with
  | some n, false, false => match op with
   | .eql => some (.eq false (.agg n) x y)
   | .neq => some (.eq true (.agg n) x y)
   | _ => none
  | _, _, _ => none
 | _ => none
def compBuild (P : Program) (t : TypeId) : List (Nat × Operand) → Option (List (Nat × Nat × Opd))
 | [] => some []
 | (i, x) :: r => match opd x, compBuild P t r with
  | some x, some l => match P.underlying t with
   | some (.struct fs) => match fs[i]? with
    | some f => match size? P f.type with
     | some n => some ((f.offset, n, x) :: l)
     | none => none
    | none => none
   | some (.array _ e) => match size? P e with
    | some n => some ((i * n, n, x) :: l)
    | none => none
   | _ => none
  | _, _ => none
def sized (P : Program) (t : TypeId) : Bool := match P.underlying t with
 | some (.struct fs) => fs.all fun f => (size? P f.type).isSome
 | some (.array _ e) => (size? P e).isSome
 | _ => false
def compParts : List (Nat × Operand) → Option (List (Nat × Opd))
 | [] => some []
 | (i, x) :: r => match opd x, compParts r with
  | some x, some l => some ((i, x) :: l)
  | _, _ => none
def compOpt : Option Operand → Option (Option Opd)
 | none => some none
 | some x => match opd x with
  | some x => some (some x)
  | none => none
def compCall (P : Program) (c : Call) (type : TypeId) : Option XOp :=
 match c.callee with
 | .value (.func f) => match P.funcs[f]? with
  | some fn => match fn.name == "runtime.NumGoroutine", fn.body.isSome, opds c.args.toList with
   | false, true, some l => some (.call f l)
   | _, _, _ => none
  | none => none
 | .builtin .copy => match c.args.toList, c.argTypes[0]?, c.argTypes[1]? with
  | [x, y], some t, some t' => match P.underlying t, P.underlying t', opd x, opd y with
   | some (.slice e), some (.slice _), some x, some y => match size? P e with
    | some es => match decide (0 < es) with
     | true => some (.copy es x y)
     | false => none
    | none => none
   | _, _, _, _ => none
  | _, _, _ => none
 | .builtin .len => match c.args.toList, c.argTypes[0]? with
  | [x], some t => match P.underlying t, opd x with
   | some (.slice _), some x => some (.len x)
   | some (.map _ _), some x => some (.lenMap x)
   | _, _ => none
  | _, _ => none
 | .builtin .cap => match c.args.toList, c.argTypes[0]? with
  | [x], some t => match P.underlying t, opd x with
   | some (.slice _), some x => some (.cap x)
   | _, _ => none
  | _, _ => none
 | .builtin .min => match opds c.args.toList with
  | some (x :: l) => some (.mnmx false x l)
  | _ => none
 | .builtin .max => match opds c.args.toList with
  | some (x :: l) => some (.mnmx true x l)
  | _ => none
 | .builtin .append => match c.args.toList, c.argTypes.toList with
  | [x, y], [t, u] => match t == u, P.underlying t with
   | true, some (.slice e) => match P.info? e, zero P e, opd x, opd y with
    | some i, some z, some x, some y => match decide (0 < i.size) with
     | true => some (.append i.size i.bytes z x y)
     | false => none
    | _, _, _, _ => none
   | false, some (.slice e) => match P.underlying u, P.info? e, zero P e, opd x, opd y with
    | some (.int _), some i, some z, some x, some y => match decide (0 < i.size) with
     | true => some (.appendZ i.size i.bytes z x y)
     | false => none
    | _, _, _, _, _ => none
   | _, _ => none
  | _, _ => none
 | .value (.tmp t) => (opds c.args.toList).map (.callV (.tmp t))
 | _ => none
/-- Maps of numbers: how a value is read, its nought. -/
def mapTy (P : Program) (t : TypeId) : Option (Option Nat × List C) :=
 match P.underlying t with
 | some (.map kt et) => match P.underlying kt, agOf P et, (P.info? et).bind (·.zero) with
  | some (.int .i64), some none, some v => match cst v with
   | some c => some (none, [c])
   | none => none
  | some (.int .i64), some (some (n + 1)), some (.agg cs) => match csts cs.toList, cs.size == n + 1 with
   | some z, true => some (some (n + 1), z)
   | _, _ => none
  | some (.array 2 e), some none, some v => match P.underlying e, P.info? e, P.cellsOf e == 1, cst v with
   | some (.int .i64), some _, true, some c => some (some 0, [c])
   | _, _, _, _ => none
  | _, _, _ => none
 | _ => none
/-- Maps whose keys are numbers. -/
def mapTyI (P : Program) (t : TypeId) : Option (Option Nat × List C) := match mapTy P t with
 | some (some 0, _) => none
 | x => x
def comp1 (P : Program) (o : Oper) : Option XOp :=
 match o.op with
 | .panic _ => some .dead
 | .makeInterface _ _ => some .dead
 | .makeMap t r => match mapTy P t, r with
  | some (ag, _), none => some (.makeMap ag)
  | _, _ => none
 | .lookup t x i ok => match mapTy P t, opd x, opd i with
  | some (ag, z), some x, some i => some (.lookup ok ag z x i)
  | _, _, _ => none
 | .mapUpdate t x i v => match mapTy P t, opd x, opd i, opd v with
  | some (ag, _), some x, some i, some v => some (.mapUpdate ag x i v)
  | _, _, _, _ => none
 | .mapEntry t x i => match mapTyI P t, opd x, opd i with
  | some (ag, z), some x, some i => some (.mapEntry ag z x i)
  | _, _, _ => none
 | .entryStore t x s v => match mapTyI P t, opd x, opd s, opd v with
  | some (ag, _), some x, some s, some v => some (.entryStore ag x s v)
  | _, _, _, _ => none
 | .move x => (opd x).map .move
 | .assign x => (opd x).map .move
 | .pick c a b => match opd c, opd a, opd b with
  | some c, some a, some b => some (.pick c a b)
  | _, _, _ => none
 | .box _ x => (opd x).map .box
 | .alloc t => (zero P t).map .alloc
 | .build t ps => match zero P t, compBuild P t ps.toList, sized P t with
  | some z, some l, true => some (.build z l)
  | _, _, _ => none
 | .buildSlice t n ps => match P.underlying t with
  | some (.slice e) => match size? P e, zero P e, compParts ps.toList with
   | some es, some z, some l => match decide (0 < es), decide (n * es ≤ 2 ^ 24) with
    | true, true => some (.buildSlice es z n l)
    | _, _ => none
   | _, _, _ => none
  | _ => none
 | .load t x => match agOf P t, opd x with
  | some ag, some x => some (.load ag x)
  | _, _ => none
 | .store t x y => match size? P t, opd x, opd y with
  | some n, some x, some y => some (.store n x y)
  | _, _, _ => none
 | .nilCheck x => (opd x).map .nilCheck
 | .binOp op t x y _ => match opd x, opd y with
  | some x, some y => compBin P op t x y
  | _, _ => none
 | .unOp op _ x => match op with
  | .not => (opd x).map .not
  | .neg => (opd x).map .neg
  | .xor => (opd x).map .cpl
  | .plus => none
 | .convert s d x => match P.underlying s, P.underlying d with
  | some (.int _), some (.int k) => (opd x).map (.conv k)
  | some (.slice e), some .string => match P.underlying e with
   | some (.int .u8) => (opd x).map .b2s
   | _ => none
  | some .string, some (.slice e) => match P.underlying e, x with
   | some (.int .u8), .const (.string b) => some (.s2b (b.data.toList.map UInt8.toNat))
   | _, _ => none
  | _, _ => none
 | .fieldAddr s x f => match P.underlying s with
  | some (.struct fs) => match fs[f]?, opd x with
   | some fd, some x => match size? P fd.type with
    | some n => match n == 0 with
     | false => some (.fieldAddr fd.offset x)
     | true => none
    | none => none
   | _, _ => none
  | _ => none
 | .field s x f => match P.underlying s with
  | some (.struct fs) => match fs[f]?, opd x with
   | some fd, some x => match agOf P fd.type with
    | some ag => some (.field fd.offset ag x)
    | none => none
   | _, _ => none
  | _ => none
 | .indexAddr t x i => match P.underlying t, opd x, opd i with
  | some (.array n e), some x, some i => (size? P e).map fun es => .indexAddr (some n) es x i
  | some (.slice e), some x, some i => (size? P e).map fun es => .indexAddr none es x i
  | _, _, _ => none
 | .index t x i => match P.underlying t, opd x, opd i with
  | some (.array n e), some x, some i => match size? P e, agOf P e with
   | some es, some ag => some (.index n es ag x i)
   | _, _ => none
  | _, _, _ => none
 | .slice t x lo hi none => match P.underlying t with
  | some (.slice e) => match size? P e, opd x, compOpt lo, compOpt hi with
   | some es, some x, some lo, some hi => some (.slice es x lo hi)
   | _, _, _, _ => none
  | _ => none
 | .makeSlice t l c => match P.underlying t with
  | some (.slice e) => match P.info? e, zero P e, opd l, opd c with
   | some i, some z, some lo, some co => match decide (0 < i.size), decide (0 < i.bytes), decide (i.bytes ≤ 4096), l, c with
    | true, true, true, .tmp a, .tmp b => match a == b with
     | true => some (.makeSlice i.size i.bytes z lo none)
     | false => some (.makeSlice i.size i.bytes z lo (some co))
    | true, true, true, .const (.int _ a), .const (.int _ b) => match a == b with
     | true => some (.makeSlice i.size i.bytes z lo none)
     | false => some (.makeSlice i.size i.bytes z lo (some co))
    | true, true, true, _, _ => some (.makeSlice i.size i.bytes z lo (some co))
    | _, _, _, _, _ => none
   | _, _, _, _ => none
  | _ => none
 | .extract x i => (opd x).map (.extract · i)
 | .call c => compCall P c o.type
 | .makeFunc (.func f) first caps => match first.isEmpty, opds caps.toList with
  | true, some l => some (.makeFunc f l)
  | _, _ => none
 | _ => none

def tmpOf (ops : Array Oper) : Option (Nat × Bool) → Option (Option (Nat × Bool))
 | none => some none
 | some (j, b) => match (ops[j]?).bind (·.dst) with
  | some t => some (some (t, b))
  | none => none
def compO (P : Program) (ops : Array Oper) (o : Oper) : Option XO :=
 match comp1 P o, tmpOf ops o.guard with
 | some x, some g => some ⟨o.dst, g, x⟩
 | _, _ => none
def compOs (P : Program) (ops : Array Oper) : List Oper → Option (List XO)
 | [] => some []
 | o :: r => match compO P ops o, compOs P ops r with
  | some x, some l => some (x :: l)
  | _, _ => none
/-- Operations that leave the memory alone. -/
def XOp.quiet : XOp → Bool
 | .move _ | .pick .. | .build .. | .load .. | .bin .. | .div .. | .shift .. | .cmp .. | .eq .. | .isNil .. | .not _ | .neg _ | .cpl _ | .conv .. | .fieldAddr .. | .field .. | .indexAddr .. | .index .. | .slice .. | .extract .. | .len _ | .cap _ | .mnmx .. | .nilCheck _ => true
 | _ => false
/-- An order of a region: quiet operations as soon as they may come up, others where they alone may. -/
inductive SD where
 | nil
 | op (i : Nat) (er : Bool) (r : SD)
 | alt (a b : SD)
/-- More than one? -/
def manyB : List Nat → Bool
 | [_] => false
 | _ => true
def sched (ops : Array Oper) (qs : Array Bool) : Nat → Array Bool → Option SD
 | 0, l => match Region.ready .any ops l with
  | [] => some .nil
  | _ => none
 | n + 1, l => match Region.ready .any ops l with
  | [] => some .nil
  | rs => match rs.find? (fun i => qs.getD i false && Region.free .any ops l i) with
   | some i => (sched ops qs n (l.setIfInBounds i true)).map (.op i (manyB rs))
   | none => match rs with
    | [i] => (sched ops qs n (l.setIfInBounds i true)).map (.op i false)
    | [i, j] => match sched ops qs n (l.setIfInBounds i true), sched ops qs n (l.setIfInBounds j true) with
     | some a, some b => some (.alt (.op i false a) (.op j false b))
     | _, _ => none
    | [i, j, k] => match sched ops qs n (l.setIfInBounds i true), sched ops qs n (l.setIfInBounds j true), sched ops qs n (l.setIfInBounds k true) with
     | some a, some b, some c => some (.alt (.op i false a) (.alt (.op j false b) (.op k false c)))
     | _, _, _ => none
    | _ => none
def compSched (P : Program) (ops : Array Oper) : SD → Option DX
 | .nil => some .nil
 | .op i b r => match ops[i]? with
  | some o => match compO P ops o, compSched P ops r with
   | some x, some l => some (.op i b x l)
   | _, _ => none
  | none => none
 | .alt a b => match compSched P ops a, compSched P ops b with
  | some a, some b => some (.alt a b)
  | _, _ => none
/-- Where a pointer comes from: a slot from outside, and fields. -/
def rootOf (ops : Array Oper) : Nat → Operand → Option (Nat × List Nat)
 | 0, _ => none
 | n + 1, .tmp t => match ops.find? (fun o => o.dst == some t) with
  | some o => match o.op with
   | .move y => rootOf ops n y
   | .assign y => rootOf ops n y
   | .nilCheck y => rootOf ops n y
   | .fieldAddr _ y f => (rootOf ops n y).map fun (r, p) => (r, f :: p)
   | .indexAddr _ y _ => (rootOf ops n y).map fun (r, p) => (r, 1000000 :: p)
   | .load _ y => (rootOf ops n y).map fun (r, p) => (r, 2000000 :: p)
   | _ => none
  | none => some (t, [])
 | _, _ => none
/-- A load of what the region stores. -/
def hot (ops : Array Oper) (o : Oper) : Bool := match o.op with
 | .load _ x => match rootOf ops 20 x with
  | some r => ops.any fun s => match s.op with
   | .store _ y _ => rootOf ops 20 y == some r
   | _ => false
  | none => false
 | _ => false
def isLd (o : Oper) : Bool := match o.op with
 | .load .. => true
 | _ => false
/-- A load of what the region made. -/
def madeHere (ops : Array Oper) (o : Oper) : Bool := match o.op with
 | .load _ x => match rootOf ops 20 x with
  | some _ => false
  | none => true
 | _ => false
/-- Loads that are not quiet: all (1), those of what the region made (2). -/
def loudLd (ops : Array Oper) (b : Nat) (o : Oper) : Bool := match b with
 | 0 => false
 | 1 => isLd o
 | _ => madeHere ops o
def quiets (P : Program) (ops : Array Oper) (b : Nat) : Array Bool := ops.map fun o => ((match comp1 P o with
 | some x => x.quiet
 | none => false) && !hot ops o) && !(loudLd ops b o)
def opKey : Opd → Nat
 | .tmp t => t
 | _ => 0
/-- A range over a map, as it is laid: the iterator, its rounds. -/
structure RQ where
 ops0 : Array Oper
 pre : List Oper
 o0 : Oper
 T : TypeId
 x : Operand
 it : Nat
 t1 : Nat
 tok : Nat
 t2 : Nat
 b7 : Nat
 ops2 : Array Oper
 tl : List Oper
 rest : Code
def rangeAt (a b : Code) : Option RQ :=
 match a, b with
 | .region _ ops0 false, .block id (.loop (.seq (.region _ ops1 false) (.seq (.cond (.tmp tok) .skip (.exit id')) (.block b7 (.seq (.region _ ops2 false) rest))))) =>
  match ops0.toList.getLast?, ops1.toList, ops2.toList with
  | some o0, [o1, o2], o3 :: tl =>
   match o0.op, o0.dst, o0.guard with
   | .range T x, some it, none => match o1.op, o1.dst, o1.guard with
    | .next (.tmp it1) false, some t1, none => match o2.op, o2.dst, o2.guard with
     | .extract (.tmp t1') 0, some tok', none => match o3.op, o3.dst, o3.guard with
      | .entry (.tmp it2), some t2, none =>
       match it == it1 && it == it2 && t1 == t1' && tok == tok' && id == id' && !(t1 == it) && !(tok == it) && !(t2 == it) && !(t1 == tok) with
       | true => some ⟨ops0, ops0.toList.dropLast, o0, T, x, it, t1, tok, t2, b7, ops2, tl, rest⟩
       | false => none
      | _, _, _ => none
     | _, _, _ => none
    | _, _, _ => none
   | _, _, _ => none
  | _, _, _ => none
 | _, _ => none
/-- j: the places where ways meet that are kept as such: a condition by its slot, a region by 1000 + its number, a block by 2000 + its number. -/
def comp (P : Program) (j : List Nat) : Nat → Code → Option X
 | 0, _ => none
 | n + 1, c => match c with
  | .skip => some .skip
  | .region id ops false => (compOs P ops ops.toList).map fun l => match j.contains (1000 + id) with
   | true => .join (.ops l)
   | false => .ops l
  | .region id ops true => match Region.noSelect ops, sched ops (quiets P ops (match j.contains (3000 + id), j.contains (4000 + id) with | true, _ => 1 | false, true => 2 | _, _ => 0)) ops.size (Array.replicate ops.size false) with
   | true, some s => (compSched P ops s).map fun d => match j.contains (1000 + id) with
    | true => .join (.drawn id d)
    | false => .drawn id d
   | _, _ => none
  | .seq a b => match rangeAt a b with
   | some q => match compOs P q.ops0 q.pre, mapTyI P q.T, opd q.x, compOs P q.ops2 q.tl, comp P j n q.rest with
    | some pre, some _, some mp, some tl, some y => some (.mloop pre mp q.it q.t1 q.tok q.t2 (.block q.b7 (.seq (.ops tl) y)))
    | _, _, _, _, _ => none
   | none => match comp P j n a, comp P j n b with
    | some x, some y => some (.seq x y)
    | _, _ => none
  | .cond c a b => match opd c, comp P j n a, comp P j n b with
   | some c, some x, some y => some (match j.contains (opKey c) with
    | true => .join (.cond c x y)
    | false => .cond c x y)
   | _, _, _ => none
  | .block id a => (comp P j n a).map fun x => match j.contains (2000 + id) with
   | true => .join (.block id x)
   | false => .block id x
  | .loop a => (comp P j n a).map .loop
  | .exit id => some (.exit id)
  | .ret => some .ret
  | .rangeFunc g ps x y => some (.rfun (.rangeFunc g ps x y))
  | _ => none
def compRes (P : Program) : List ResultVar → Option (List XRes)
 | [] => some []
 | .tmp t :: r => (compRes P r).map (.tmp t :: ·)
 | .cell t ty :: r => match agOf P ty, compRes P r with
  | some ag, some l => some (.cell t ag :: l)
  | _, _ => none
def compFj (P : Program) (j : List Nat) (f : FuncId) : Option XF :=
 match P.funcs[f]? with
 | some fn => match fn.body, compRes P fn.results.toList with
  | some c, some r => (comp P j 1000 c).map (XF.mk fn.ntmps r)
  | _, _ => none
 | none => none
/-- The ranges over functions in a code. -/
def rfs : Code → List Code
 | .seq a b => rfs a ++ rfs b
 | .cond _ a b => rfs a ++ rfs b
 | .block _ a => rfs a
 | .loop a => rfs a
 | .rangeFunc g ps x y => [.rangeFunc g ps x y]
 | _ => []
/-- The range over a function in a function's body. -/
def rfOf (P : Program) (f : FuncId) : Code := match P.funcs[f]? with
 | some fn => match fn.body with
  | some c => (rfs c).headD .skip
  | none => .skip
 | none => .skip
/-- The body of a range over a function. -/
def rfBody : Code → Code
 | .rangeFunc _ _ _ b => b
 | _ => .skip
def compF (P : Program) (f : FuncId) : Option XF := compFj P [] f
end Go.Proofs.Ytofdnnjkfpomcaa.E

/- Operations that leave the memory alone: what the evaluator says of them holds. -/
namespace Go.Proofs.Ytofdnnjkfpomcaa.E
open Go
set_option linter.unusedVariables false

@[simp] theorem Z.val_lit (n : Int) : (Z.lit n).val = n := rfl
@[simp] theorem Z.val_sym (n : Int) : (Z.sym n).val = n := rfl
@[simp] theorem NN.val_lit (n : Nat) : (NN.lit n).val = n := rfl
@[simp] theorem NN.val_sym (n : Nat) : (NN.sym n).val = n := rfl
@[simp] theorem BB.val_lit (n : Bool) : (BB.lit n).val = n := rfl
@[simp] theorem BB.val_sym (n : Bool) : (BB.sym n).val = n := rfl
section
variable {P : Program} {I : Ints} {p : Nat} {E : Env} {m : Mem} {w : World} {ts : List A} {a : Act}

theorem holds_fail (h : Holds P I p .fail) : False := by cases h
theorem cst_rep {v : Value} {c : C} (h : cst v = some c) (E : Env) (m : Mem) (w : World) : CRep E m w c v := by
 unfold cst at h
 split at h
 all_goals first
  | (cases h; exact GRep.bool (.lit _))
  | (cases h; exact GRep.int _ (.lit _))
  | (cases h; exact GRep.str _)
  | (cases h; exact GRep.nilp)
  | (cases h; exact GRep.nil)
  | cases h
theorem zcst_rep {v : Value} {c : C} (h : zcst v = some c) (E : Env) (m : Mem) (w : World) : CRep E m w c v := by
 unfold zcst at h
 split at h
 ·cases h; rfl
 ·cases h; rfl
 ·exact cst_rep h E m w
theorem opd_rep {X : Operand} {x : Opd} (h : opd X = some x) (hA : At E m w ts a) : ARep E m w (x.ev ts) (a.eval X) := by
 unfold opd at h
 split at h
 ·cases h
  rename_i t
  show ARep E m w (getT ts t) (a.tmps.getD t undef)
  unfold getT
  rw [List.getD_eq_getElem?_getD]
  cases ht : ts[t]? with
  | none => exact Or.inl rfl
  | some y => exact hA.ts.2 t y ht
 ·split at h
  ·rename_i v c hc
   cases h
   exact Or.inr (zcst_rep hc E m w)
  ·cases h
 ·cases h
  exact Or.inr ⟨#[], rfl, rfl, fun i b es j h => by simp at h⟩
 ·cases h
theorem evC_inv {X : Operand} {x : Opd} {k : C → Tree} (ho : opd X = some x) (hA : At E m w ts a) (h : Holds P I p (evC ts x k)) :
  ∃ c, (c = .any ∨ CRep E m w c (a.eval X)) ∧ Holds P I p (k c) := by
 have hr := opd_rep ho hA
 unfold evC at h
 split at h
 ·rename_i v hv
  rw [hv] at hr
  exact ⟨v, hr, h⟩
 ·exact (holds_fail h).elim
theorem ev1_inv {X : Operand} {x : Opd} {k : V1 → Tree} (ho : opd X = some x) (hA : At E m w ts a) (h : Holds P I p (ev1 ts x k)) :
  ∃ c, V1Rep E m w c (a.eval X) ∧ Holds P I p (k c) := by
 have hr := opd_rep ho hA
 unfold ev1 at h
 split at h
 ·rename_i v hv
  rw [hv] at hr
  exact ⟨v, hr, h⟩
 ·exact (holds_fail h).elim
theorem evV_inv {X : Operand} {x : Opd} {k : V1 → Tree} (ho : opd X = some x) (hA : At E m w ts a) (h : Holds P I p (evV ts x k)) :
  ∃ c, V1Rep E m w c (a.eval X) ∧ c ≠ .c .any ∧ Holds P I p (k c) := by
 have hr := opd_rep ho hA
 unfold evV at h
 split at h
 ·exact (holds_fail h).elim
 ·rename_i v hn hv
  rw [hv] at hr
  exact ⟨v, hr, hn, h⟩
 ·exact (holds_fail h).elim
theorem evZ_inv {X : Operand} {x : Opd} {k : IntKind → Z → Tree} (ho : opd X = some x) (hA : At E m w ts a) (h : Holds P I p (evZ ts x k)) :
  ∃ i z, a.eval X = .int i z.val ∧ Holds P I p (k i z) := by
 have hr := opd_rep ho hA
 unfold evZ at h
 split at h
 ·rename_i i z hv
  rw [hv] at hr
  rcases hr with hr | hr
  ·cases hr
  ·generalize hu : a.eval X = u at hr
   cases hr
   exact ⟨i, z, rfl, h⟩
 ·exact (holds_fail h).elim
theorem evB_inv {X : Operand} {x : Opd} {k : Bool → Tree} (ho : opd X = some x) (hA : At E m w ts a) (h : Holds P I p (evB ts x k)) :
  ∃ b, a.eval X = .bool b ∧ Holds P I p (k b) := by
 have hr := opd_rep ho hA
 unfold evB at h
 split at h
 ·rename_i b hv
  rw [hv] at hr
  rcases hr with hr | hr
  ·cases hr
  ·generalize hu : a.eval X = u at hr
   cases hr
   exact ⟨b, rfl, h⟩
 ·rename_i b hv
  rw [hv] at hr
  rcases hr with hr | hr
  ·cases hr
  ·generalize hu : a.eval X = u at hr
   cases hr
   cases h with
   | br h1 h2 =>
    cases b
    ·exact ⟨false, rfl, h2 rfl⟩
    ·exact ⟨true, rfl, h1 rfl⟩
 ·exact (holds_fail h).elim

/-- A world that is this one but for blocks that the region may write. -/
def Same (wr : Option (List Nat × Nat)) (E : Env) (m : Mem) (w w' : World) : Prop := ∀ k, k < w.heap.size → ¬ Foot (fun b => okW wr b = true) E m k → w'.heap[k]? = w.heap[k]?
/-- A quiet operation: a value, and the world stays. -/
def QRes (P : Program) (I : Ints) (p : Nat) (E : Env) (m : Mem) (w : World) (wr : Option (List Nat × Nat)) (er : Bool) (a : Act) (o : Oper) (k : A → Mem → Tree) : Prop :=
 ∃ av v, Holds P I p (k av m) ∧ ARep E m w av v ∧ ∀ w', (w' = w ∨ (er = true ∧ Same wr E m w w')) → (execOp a.eval o).run P w' = .ok (.value v) w'

variable {wr : Option (List Nat × Nat)} {er : Bool} {o : Oper} {k : A → Mem → Tree}
theorem q_move {X : Operand} {x : Opd} (hop : o.op = .move X ∨ o.op = .assign X) (ho : opd X = some x) (hA : At E m w ts a) (h : Holds P I p (evOp I er wr (.move x) ts m k)) : QRes P I p E m w wr er a o k := by
 refine ⟨_, _, h, opd_rep ho hA, fun w' _ => ?_⟩
 rcases hop with hop | hop <;> simp [execOp, hop]
theorem q_pick {C_ X Y : Operand} {c x y : Opd} (hop : o.op = .pick C_ X Y) (hc : opd C_ = some c) (ho : opd X = some x) (ho' : opd Y = some y) (hA : At E m w ts a) (h : Holds P I p (evOp I er wr (.pick c x y) ts m k)) : QRes P I p E m w wr er a o k := by
 obtain ⟨b, hb, h⟩ := evB_inv hc hA h
 cases b
 ·refine ⟨_, _, h, opd_rep ho' hA, fun w' _ => ?_⟩
  simp [execOp, hop, hb, asBool]
 ·refine ⟨_, _, h, opd_rep ho hA, fun w' _ => ?_⟩
  simp [execOp, hop, hb, asBool]
theorem num_rep (i : IntKind) (z : Z) : ARep E m w (.one (.c (.g (.int i z)))) (.int i z.val) := .inr (.int i z)
theorem bool_rep (b : BB) : ARep E m w (.one (.c (.g (.bool b)))) (.bool b.val) := .inr (.bool b)
theorem zBin_val (hI : I = ints) (op : BinOp) (i : IntKind) (x y : Z) : (zBin I op i x y).val = rBin op i x.val y.val := by
 subst hI
 cases x <;> cases y <;> rfl
theorem zCmp_val (hI : I = ints) (op : BinOp) (x y : Z) : (zCmp I op x y).val = rCmp op x.val y.val := by
 subst hI
 cases x <;> cases y <;> rfl
theorem eqGuard_int (op : BinOp) (t : TypeId) (X Y : Operand) (i j : IntKind) (x y : Int) (w' : World) : (eqGuard op t X Y (.int i x) (.int j y)).run P w' = .ok () w' := by
 cases op <;> rfl
theorem run_bin {op : BinOp} (h : isArith op = true) (t : TypeId) (i : IntKind) (x y : Int) (w' : World) : (binOp op t (.int i x) (.int i y)).run P w' = .ok (.int i (rBin op i x y)) w' := by
 cases op <;> simp [isArith] at h <;> simp [binOp, Op.intArith, Op.intBits, rBin]
theorem run_div {op : BinOp} (h : isDiv op = true) (t : TypeId) (i : IntKind) (x y : Int) (hy : y ≠ 0) (w' : World) : (binOp op t (.int i x) (.int i y)).run P w' = .ok (.int i (rBin op i x y)) w' := by
 cases op <;> simp [isDiv] at h <;> simp [binOp, Op.intDiv, rBin, hy]
theorem run_shift {op : BinOp} (h : isShift op = true) (t : TypeId) (i j : IntKind) (x y : Int) (hy : 0 ≤ y) (w' : World) : (binOp op t (.int i x) (.int j y)).run P w' = .ok (.int i (rBin op i x y)) w' := by
 have : ¬ y < 0 := by omega
 cases op <;> simp [isShift] at h <;> simp [binOp, Op.shift, rBin, this]
theorem run_cmp {op : BinOp} (h : isCmp op = true) (t : TypeId) (i : IntKind) (x y : Int) (w' : World) : (binOp op t (.int i x) (.int i y)).run P w' = .ok (.bool (rCmp op x y)) w' := by
 cases op <;> simp [isCmp] at h <;> simp [binOp, Op.intCmp, rCmp]
theorem q_bin {op : BinOp} {t u : TypeId} {X Y : Operand} {x y : Opd} (hI : I = ints) (hop : o.op = .binOp op t X Y u) (ha : isArith op = true) (ho : opd X = some x) (ho' : opd Y = some y) (hA : At E m w ts a) (h : Holds P I p (evOp I er wr (.bin op x y) ts m k)) : QRes P I p E m w wr er a o k := by
 obtain ⟨i, z, hz, h⟩ := evZ_inv ho hA h
 obtain ⟨j, y', hy, h⟩ := evZ_inv ho' hA h
 split at h
 ·rename_i hij
  obtain rfl : i = j := of_decide_eq_true hij
  refine ⟨_, _, h, num_rep _ _, fun w' _ => ?_⟩
  rw [zBin_val hI]
  simp [execOp, hop, hz, hy, eqGuard_int, run_bin ha]
 ·exact (holds_fail h).elim
theorem q_div {op : BinOp} {t u : TypeId} {X Y : Operand} {x y : Opd} (hI : I = ints) (hop : o.op = .binOp op t X Y u) (ha : isDiv op = true) (ho : opd X = some x) (ho' : opd Y = some y) (hA : At E m w ts a) (h : Holds P I p (evOp I er wr (.div op x y) ts m k)) : QRes P I p E m w wr er a o k := by
 obtain ⟨i, z, hz, h⟩ := evZ_inv ho hA h
 obtain ⟨j, y', hy, h⟩ := evZ_inv ho' hA h
 split at h
 ·rename_i hij
  obtain rfl : i = j := of_decide_eq_true hij
  have key : y'.val ≠ 0 ∧ Holds P I p (k (.one (.c (.g (.int i (zBin I op i z y'))))) m) := by
   cases y' with
   | lit n =>
    simp only at h
    split at h
    ·exact (holds_fail h).elim
    ·rename_i hn
     exact ⟨of_decide_eq_false hn, h⟩
   | sym n =>
    cases h with
    | nz h1 h => exact ⟨h1, h⟩
  refine ⟨_, _, key.2, num_rep _ _, fun w' _ => ?_⟩
  rw [zBin_val hI]
  simp [execOp, hop, hz, hy, eqGuard_int, run_div ha _ _ _ _ key.1]
 ·exact (holds_fail h).elim
theorem q_shift {op : BinOp} {t u : TypeId} {X Y : Operand} {x y : Opd} (hI : I = ints) (hop : o.op = .binOp op t X Y u) (ha : isShift op = true) (ho : opd X = some x) (ho' : opd Y = some y) (hA : At E m w ts a) (h : Holds P I p (evOp I er wr (.shift op x y) ts m k)) : QRes P I p E m w wr er a o k := by
 obtain ⟨i, z, hz, h⟩ := evZ_inv ho hA h
 obtain ⟨j, y', hy, h⟩ := evZ_inv ho' hA h
 have key : 0 ≤ y'.val ∧ Holds P I p (k (.one (.c (.g (.int i (zBin I op i z y'))))) m) := by
  cases y' with
  | lit n =>
   simp only at h
   split at h
   ·rename_i hn
    exact ⟨of_decide_eq_true hn, h⟩
   ·exact (holds_fail h).elim
  | sym n =>
   cases h with
   | nonneg h1 h => exact ⟨h1, h⟩
 refine ⟨_, _, key.2, num_rep _ _, fun w' _ => ?_⟩
 rw [zBin_val hI]
 simp [execOp, hop, hz, hy, eqGuard_int, run_shift ha _ _ _ _ _ key.1]
theorem q_cmp {op : BinOp} {t u : TypeId} {X Y : Operand} {x y : Opd} (hI : I = ints) (hop : o.op = .binOp op t X Y u) (ha : isCmp op = true) (ho : opd X = some x) (ho' : opd Y = some y) (hA : At E m w ts a) (h : Holds P I p (evOp I er wr (.cmp op x y) ts m k)) : QRes P I p E m w wr er a o k := by
 obtain ⟨i, z, hz, h⟩ := evZ_inv ho hA h
 obtain ⟨j, y', hy, h⟩ := evZ_inv ho' hA h
 split at h
 ·rename_i hij
  obtain rfl : i = j := of_decide_eq_true hij
  refine ⟨_, _, h, bool_rep _, fun w' _ => ?_⟩
  rw [zCmp_val hI]
  simp [execOp, hop, hz, hy, eqGuard_int, run_cmp ha]
 ·exact (holds_fail h).elim
theorem bNot_val (hI : I = ints) (b : BB) : (bNot I b).val = !b.val := by
 subst hI
 cases b <;> rfl
theorem q_not {t : TypeId} {X : Operand} {x : Opd} (hI : I = ints) (hop : o.op = .unOp .not t X) (ho : opd X = some x) (hA : At E m w ts a) (h : Holds P I p (evOp I er wr (.not x) ts m k)) : QRes P I p E m w wr er a o k := by
 have hr := opd_rep ho hA
 simp only [evOp] at h
 split at h
 ·rename_i b hv
  rw [hv] at hr
  rcases hr with hr | hr
  ·cases hr
  ·generalize hu : a.eval X = u at hr
   cases hr
   refine ⟨_, _, h, bool_rep _, fun w' _ => ?_⟩
   rw [bNot_val hI]
   simp [execOp, hop, hu, Op.unary]
 ·exact (holds_fail h).elim
theorem q_neg {t : TypeId} {X : Operand} {x : Opd} (hI : I = ints) (hop : o.op = .unOp .neg t X) (ho : opd X = some x) (hA : At E m w ts a) (h : Holds P I p (evOp I er wr (.neg x) ts m k)) : QRes P I p E m w wr er a o k := by
 obtain ⟨i, z, hz, h⟩ := evZ_inv ho hA h
 refine ⟨_, .int i (rNeg i z.val), h, ?_, fun w' _ => ?_⟩
 ·have : (zNeg I i z).val = rNeg i z.val := by subst hI; cases z <;> rfl
  rw [← this]; exact num_rep _ _
 ·simp [execOp, hop, hz, Op.unary, Op.intArith, rNeg]
theorem q_cpl {t : TypeId} {X : Operand} {x : Opd} (hI : I = ints) (hop : o.op = .unOp .xor t X) (ho : opd X = some x) (hA : At E m w ts a) (h : Holds P I p (evOp I er wr (.cpl x) ts m k)) : QRes P I p E m w wr er a o k := by
 obtain ⟨i, z, hz, h⟩ := evZ_inv ho hA h
 refine ⟨_, .int i (rCpl i z.val), h, ?_, fun w' _ => ?_⟩
 ·have : (zCpl I i z).val = rCpl i z.val := by subst hI; cases z <;> rfl
  rw [← this]; exact num_rep _ _
 ·simp [execOp, hop, hz, Op.unary, Op.intBits, rCpl]
theorem q_conv {s d : TypeId} {X : Operand} {x : Opd} {i0 i : IntKind} (hI : I = ints) (hop : o.op = .convert s d X) (hs : P.underlying s = some (.int i0)) (hd : P.underlying d = some (.int i)) (ho : opd X = some x) (hA : At E m w ts a) (h : Holds P I p (evOp I er wr (.conv i x) ts m k)) : QRes P I p E m w wr er a o k := by
 obtain ⟨j, z, hz, h⟩ := evZ_inv ho hA h
 refine ⟨_, .int i (i.wrap z.val), h, ?_, fun w' _ => ?_⟩
 ·have : (zConv I i z).val = i.wrap z.val := by subst hI; cases z <;> rfl
  rw [← this]; exact num_rep _ _
 ·simp [execOp, hop, hz, convert, run_underlying hs, run_underlying hd, Conv.intToInt]

theorem seg_inv {row : List C} {j : Nat} {ag : Option Nat} {k : V1 → Tree} (h : Holds P I p (seg row j ag k)) :
  (ag = none ∧ ∃ c, row[j]? = some c ∧ Holds P I p (k (.c c))) ∨ ∃ n, ag = some n ∧ j + n ≤ row.length ∧ Holds P I p (k (.agg ((row.drop j).take n))) := by
 unfold seg at h
 split at h
 ·split at h
  ·exact .inl ⟨rfl, _, by assumption, h⟩
  ·exact (holds_fail h).elim
 ·rename_i n
  split at h
  ·rename_i hd
   exact .inr ⟨n, rfl, of_decide_eq_true hd, h⟩
  ·exact (holds_fail h).elim
theorem ag_none {t : TypeId} (h : agOf P t = some none) (w' : World) : (isAgg t).run P w' = .ok false w' := by
 unfold agOf at h
 unfold isAgg
 split at h
 ·unfold size? at h; cases hq : P.info? t <;> simp [hq] at h
 ·unfold size? at h; cases hq : P.info? t <;> simp [hq] at h
 ·rename_i d h1 h2 hd
  rw [Sem.run_bind, run_underlying hd w']
  cases d <;> simp_all
 ·cases h
theorem ag_some {t : TypeId} {n : Nat} (h : agOf P t = some (some n)) : ∃ d, P.underlying t = some d ∧ d.isRow = true ∧ (P.info? t).map (·.size) = some n := by
 unfold agOf at h
 split at h
 ·rename_i fs hd
  exact ⟨_, hd, rfl, by simpa [size?] using h⟩
 ·rename_i n e hd
  exact ⟨_, hd, rfl, by simpa [size?] using h⟩
 ·cases h
 ·cases h
theorem ag_agg {t : TypeId} {n : Nat} (h : agOf P t = some (some n)) (w' : World) : (isAgg t).run P w' = .ok true w' := by
 obtain ⟨d, hd, hr, _⟩ := ag_some h
 unfold isAgg
 rw [Sem.run_bind, run_underlying hd w']
 cases d <;> simp_all
theorem load_at {t : TypeId} {ag : Option Nat} {row : List C} {a_ off j : Nat} {k : V1 → Tree} (hag : agOf P t = some ag) (h : Holds P I p (seg row j ag k))
  (hc : ∀ (jj : Nat) (c : C), row[jj]? = some c → ∃ u, w.cell? (at_ a_ (off + jj)) = some u ∧ CRep E m w c u) :
  ∃ av v, Holds P I p (k av) ∧ V1Rep E m w av v ∧ ∀ w' : World, w'.heap[a_]? = w.heap[a_]? → (loadVar t (at_ a_ (off + j))).run P w' = .ok v w' := by
 rcases seg_inv h with ⟨rfl, c, hj, h⟩ | ⟨n, rfl, hn, h⟩
 ·obtain ⟨u, h1, h2⟩ := hc j c hj
  refine ⟨_, u, h, .inr h2, fun w' hw => ?_⟩
  have : w'.cell? (at_ a_ (off + j)) = some u := (cell_frz hw).trans h1
  simp [loadVar, Sem.run_bind, ag_none hag, load, Sem.run, this]
 ·obtain ⟨d, hd, hr, hs⟩ := ag_some hag
  have hx : ∀ i, i < n → ∃ c u, row[j + i]? = some c ∧ w.cell? (at_ a_ (off + (j + i))) = some u ∧ CRep E m w c u := by
   intro i hi
   obtain ⟨c, hc'⟩ : ∃ c, row[j + i]? = some c := ⟨row[j + i], List.getElem?_eq_getElem (by omega)⟩
   obtain ⟨u, h1, h2⟩ := hc _ c hc'
   exact ⟨c, u, hc', h1, h2⟩
  refine ⟨_, .agg ((List.range n).map fun i => (w.cell? (at_ a_ (off + (j + i)))).getD undef).toArray, h, ⟨_, rfl, by simp; omega, fun i x hi => ?_⟩, fun w' hw => ?_⟩
  ·rw [List.getElem?_take] at hi
   split at hi
   ·rename_i hin
    rw [List.getElem?_drop] at hi
    obtain ⟨c, u, h1, h2, h3⟩ := hx i hin
    rw [h1] at hi
    cases hi
    exact ⟨u, by simp [hin, h2], h3⟩
   ·cases hi
  ·refine run_loadVar_mid w' a_ (off + j) t _ d (fun i v hv => ?_) hd hr (by simpa using hs)
   obtain ⟨hi, hv⟩ := List.getElem?_eq_some_iff.1 hv
   have hin : i < n := by simpa using hi
   obtain ⟨c, u, h1, h2, h3⟩ := hx i hin
   simp only [List.getElem_map, List.getElem_range, h2, Option.getD_some] at hv
   subst hv
   rw [show off + j + i = off + (j + i) by omega]
   exact (cell_frz hw).trans h2
theorem part_at {t : TypeId} {ag : Option Nat} {l : List C} {cs : Array Value} {off : Nat} {k : V1 → Tree} (hag : agOf P t = some ag) (h : Holds P I p (seg l off ag k))
  (hs : cs.size = l.length) (hc : ∀ (i : Nat) (x : C), l[i]? = some x → ∃ u, cs[i]? = some u ∧ CRep E m w x u) :
  ∃ av v, Holds P I p (k av) ∧ V1Rep E m w av v ∧ ∀ w', (part t cs off).run P w' = .ok v w' := by
 rcases seg_inv h with ⟨rfl, c, hj, h⟩ | ⟨n, rfl, hn, h⟩
 ·obtain ⟨u, h1, h2⟩ := hc off c hj
  exact ⟨_, u, h, .inr h2, fun w' => by simp [part, Sem.run_bind, ag_none hag, h1]⟩
 ·obtain ⟨d, hd, hr, hsz⟩ := ag_some hag
  refine ⟨_, .agg (cs.extract off (off + n)), h, ⟨_, rfl, by simp; omega, fun i x hi => ?_⟩, fun w' => ?_⟩
  ·rw [List.getElem?_take] at hi
   split at hi
   ·rename_i hin
    rw [List.getElem?_drop] at hi
    obtain ⟨u, h1, h2⟩ := hc _ x hi
    exact ⟨u, by rw [Array.getElem?_extract]; simp [h1]; omega, h2⟩
   ·cases hi
  ·cases hq : P.info? t with
   | none => simp [hq] at hsz
   | some i =>
    have : i.size = n := by simpa [hq] using hsz
    simp [part, Sem.run_bind, ag_agg hag, sizeOf, typeInfo, hq, this]
theorem foot_not_frz {k' : Nat} {Wt : Nat → Prop} (hs : Sat E m w) (h : E.F k' ∨ E.B k') : ¬ Foot Wt E m k' := by
 rintro ⟨id, blk, x, h1, h2, h3, h4⟩
 have := hs.dis id blk k' x h1 h2 h4
 exact h.elim this.1 this.2
/-- A block that is read early is as it was. -/
theorem same_ptr {b a_ base : Nat} {blk : Blk} {w' : World} (hs : Sat E m w) (hb : m[b]? = some blk) (hl : blk.live) (hr : E.ρ b = some (a_, base)) (ha : a_ < w.heap.size)
  (hw : w' = w ∨ (er = true ∧ Same wr E m w w')) (ho : er = true → okW wr b = false) : w'.heap[a_]? = w.heap[a_]? := by
 rcases hw with rfl | ⟨he, hw⟩
 ·rfl
 ·refine hw a_ ha ?_
  rintro ⟨id, blk', x, h1, h2, h3, h4⟩
  obtain rfl := hs.inj id b blk' blk a_ x base h1 hb h2 hl h4 hr
  rw [ho he] at h3
  cases h3
theorem same_frz {a_ : Nat} {w' : World} (hs : Sat E m w) (h : E.F a_ ∨ E.B a_) (hw : w' = w ∨ (er = true ∧ Same wr E m w w')) : w'.heap[a_]? = w.heap[a_]? := by
 rcases hw with rfl | ⟨he, hw⟩
 ·rfl
 ·exact hw a_ (hs.old a_ h) (foot_not_frz hs h)
theorem grounds_map0 : ∀ {l : List C} {g : List G}, grounds l = some g → g.map C.g = l
 | [], g, h => by cases h; rfl
 | .g x :: r, g, h => by
  simp only [grounds] at h
  split at h
  ·rename_i l hl
   cases h
   simp [grounds_map0 hl]
  ·cases h
 | .any :: r, g, h => by cases h
 | .bor _ _ :: r, g, h => by cases h
 | .gp _ _ :: r, g, h => by cases h
 | .ptr _ _ _ _ :: r, g, h => by cases h
 | .row _ _ _ :: r, g, h => by cases h
 | .sl _ _ _ _ _ :: r, g, h => by cases h
 | .fn _ _ :: r, g, h => by cases h
 | .map _ :: r, g, h => by cases h
 | .stamp _ _ :: r, g, h => by cases h
theorem groundRows_map0 : ∀ {l : List (List C)} {g : List (List G)}, groundRows l = some g → g.map (fun r => r.map C.g) = l
 | [], g, h => by cases h; rfl
 | x :: r, g, h => by
  simp only [groundRows] at h
  split at h
  ·rename_i x' l hx hl
   cases h
   simp [grounds_map0 hx, groundRows_map0 hl]
  ·cases h
theorem ground_row {rows : List (List C)} {l : List (List G)} {i : Nat} {r : List G} (h : groundRows rows = some l) (hr : l[i]? = some r) : rows[i]? = some (r.map C.g) := by
 rw [← groundRows_map0 h, List.getElem?_map, hr]
 rfl
theorem sy_row {r : List G} {jj : Nat} {c : C} (h : (r.map fun x => C.g x.sy)[jj]? = some c) : ∃ g, (r.map C.g)[jj]? = some (.g g) ∧ c = .g g.sy := by
 rw [List.getElem?_map] at h
 cases hq : r[jj]? with
 | none => simp [hq] at h
 | some g =>
  simp [hq] at h
  exact ⟨g, by rw [List.getElem?_map, hq]; rfl, h.symm⟩
theorem q_load {t : TypeId} {X : Operand} {x : Opd} {ag : Option Nat} (hop : o.op = .load t X) (hag : agOf P t = some ag) (ho : opd X = some x) (hA : At E m w ts a) (her : er = true → wr.isSome = true) (h : Holds P I p (evOp I er wr (.load ag x) ts m k)) : QRes P I p E m w wr er a o k := by
 obtain ⟨c, hc, h⟩ := evC_inv ho hA h
 have hok : (er = true → okR wr c = true) ∧ Holds P I p (ld ag c m fun v => k (.one v) m) := by
  split at h
  ·exact (holds_fail h).elim
  ·rename_i hn
   refine ⟨fun he => ?_, h⟩
   cases hq : okR wr c
   ·exact (hn he hq).elim
   ·rfl
 obtain ⟨hok, h⟩ := hok
 suffices hk : ∃ a_ off j row, a.eval X = .pointer (some (at_ a_ (off + j))) ∧ Holds P I p (seg row j ag fun v => k (.one v) m) ∧
   (∀ (jj : Nat) (c : C), row[jj]? = some c → ∃ u, w.cell? (at_ a_ (off + jj)) = some u ∧ CRep E m w c u) ∧ ∀ w', (w' = w ∨ (er = true ∧ Same wr E m w w')) → w'.heap[a_]? = w.heap[a_]? by
  obtain ⟨a_, off, j, row, h1, h2, h3, h4⟩ := hk
  obtain ⟨av, v, g1, g2, g3⟩ := load_at hag h2 h3
  refine ⟨_, v, g1, g2, fun w' hw => ?_⟩
  simp [execOp, hop, h1, Instr.loadAt, Instr.sureAddr, g3 w' (h4 w' hw)]
 cases c with
 | gp row j =>
  simp only [ld] at h
  rcases hc with hc | ⟨a_, off, h1, h2, h3⟩
  ·cases hc
  ·refine ⟨a_, off, j, row.map .g, h1, h, fun jj c hj => ?_, fun w' hw => same_frz hA.sat h2 hw⟩
   rw [List.getElem?_map] at hj
   cases hq : row[jj]? with
   | none => simp [hq] at hj
   | some g =>
    simp [hq] at hj
    subst hj
    exact h3 jj g hq
 | ptr b i es j =>
  simp only [ld] at h
  rcases hc with hc | ⟨hb, a_, base, h1, h2⟩
  ·cases hc
  have hnw : er = true → okW wr b = false := fun he => by
   have h3 := hok he
   cases wr with
   | none => exact absurd (her he) (by simp)
   | some q =>
    obtain ⟨l, n⟩ := q
    simp only [okR, Bool.and_eq_true, Bool.not_eq_true', decide_eq_true_eq] at h3
    simp only [okW, h3.1, Bool.false_or, decide_eq_false_iff_not]
    omega
  cases hm : m[b]? with
  | none => rw [hm] at h; exact (holds_fail h).elim
  | some blk =>
   rw [hm] at h
   cases blk with
   | dead => exact (holds_fail h).elim
   | mp _ _ => exact (holds_fail h).elim
   | lit es' rows =>
    try simp only at h
    cases i with
    | sym i =>
     try simp only at h
     split at h
     ·rename_i heq he
      cases heq
     ·rename_i i'' heq he
      cases heq
      split at h
      ·rename_i l hl
       cases h with
       | nth r hr h =>
       obtain rfl : es = es' := by simpa using he
       rcases hA.sat.rep b _ hm trivial with ⟨e, _⟩ | ⟨a', base', e, g1, g2, g3⟩
       ·rw [e] at h1; cases h1
       ·rw [e] at h1
        cases h1
        refine ⟨a_, base + i * es, j, _, by rw [h2, Nat.add_assoc]; rfl, h, fun jj c hj => ?_, fun w' hw => same_ptr hA.sat hm trivial e g2 hw hnw⟩
        obtain ⟨g, hg, rfl⟩ := sy_row hj
        obtain ⟨u, q1, q2⟩ := (g3 i _ (ground_row hl hr)).2 jj _ hg
        exact ⟨u, by rw [Nat.add_assoc]; exact q1, G_sy q2⟩
      ·exact (holds_fail h).elim
     ·exact (holds_fail h).elim
    | lit i =>
     try simp only at h
     split at h
     ·rename_i i'' heq he
      cases heq
      split at h
      ·rename_i row hr
       obtain rfl : es = es' := by simpa using he
       rcases hA.sat.rep b _ hm trivial with ⟨e, _⟩ | ⟨a', base', e, g1, g2, g3⟩
       ·rw [e] at h1; cases h1
       ·rw [e] at h1
        cases h1
        refine ⟨a_, base + i * es, j, row, by rw [h2, Nat.add_assoc]; rfl, h, fun jj c hj => ?_, fun w' hw => same_ptr hA.sat hm trivial e g2 hw hnw⟩
        obtain ⟨u, q1, q2⟩ := (g3 i row hr).2 jj c hj
        exact ⟨u, by rw [Nat.add_assoc]; exact q1, q2⟩
      ·exact (holds_fail h).elim
     ·rename_i heq he
      cases heq
     ·exact (holds_fail h).elim
   | sym es' l =>
    try simp only at h
    split at h
    ·rename_i he
     obtain rfl : es = es' := by simpa using he
     cases h with
     | nth r hr h =>
     rcases hA.sat.rep b _ hm trivial with ⟨e, _⟩ | ⟨a', base', e, g1, g2, g3⟩
     ·rw [e] at h1; cases h1
     ·rw [e] at h1
      cases h1
      refine ⟨a_, base + i.val * es, j, r.map .g, by rw [h2, Nat.add_assoc], h, fun jj c hj => ?_, fun w' hw => same_ptr hA.sat hm trivial e g2 hw hnw⟩
      obtain ⟨u, q1, q2⟩ := (g3 i.val (r.map .g) (by simp [Blk.rows, hr])).2 jj c hj
      exact ⟨u, by rw [Nat.add_assoc]; exact q1, q2⟩
    ·exact (holds_fail h).elim
 | _ => exact (holds_fail h).elim
theorem fieldPlace_run {fd : Field} {n : Nat} (hs : size? P fd.type = some n) (hn : n ≠ 0) (a_ off : Nat) (w' : World) : (fieldPlace (at_ a_ off) fd).run P w' = .ok (at_ a_ (off + fd.offset)) w' := by
 unfold size? at hs
 cases hq : P.info? fd.type with
 | none => simp [hq] at hs
 | some i =>
  have : i.size = n := by simpa [hq] using hs
  simp [fieldPlace, sizeOf, typeInfo, hq, this, hn, at_, Addr.add_mid]
theorem q_fieldAddr {s : TypeId} {fs : Array Field} {f n : Nat} {fd : Field} {X : Operand} {x : Opd} (hop : o.op = .fieldAddr s X f) (hs : P.underlying s = some (.struct fs)) (hf : fs[f]? = some fd) (hz : size? P fd.type = some n) (hn : n ≠ 0)
  (ho : opd X = some x) (hA : At E m w ts a) (h : Holds P I p (evOp I er wr (.fieldAddr fd.offset x) ts m k)) : QRes P I p E m w wr er a o k := by
 obtain ⟨c, hc, h⟩ := evC_inv ho hA h
 cases c with
 | ptr b i es j =>
  rcases hc with hc | ⟨hb, a_, base, h1, h2⟩
  ·cases hc
  refine ⟨_, .pointer (some (at_ a_ (base + (i.val * es + (j + fd.offset))))), h, .inr ⟨hb, a_, base, h1, rfl⟩, fun w' _ => ?_⟩
  simp [execOp, hop, h2, Instr.fieldAt, run_underlying hs, hf, Instr.sureAddr, fieldPlace_run hz hn, Nat.add_assoc]
 | gp row j =>
  rcases hc with hc | ⟨a_, off, h1, h2, h3⟩
  ·cases hc
  refine ⟨_, .pointer (some (at_ a_ (off + (j + fd.offset)))), h, .inr ⟨a_, off, rfl, h2, h3⟩, fun w' _ => ?_⟩
  simp [execOp, hop, h1, Instr.fieldAt, run_underlying hs, hf, Instr.sureAddr, fieldPlace_run hz hn, Nat.add_assoc]
 | _ => exact (holds_fail h).elim
theorem q_nilCheck {X : Operand} {x : Opd} (hop : o.op = .nilCheck X) (ho : opd X = some x) (hA : At E m w ts a) (h : Holds P I p (evOp I er wr (.nilCheck x) ts m k)) : QRes P I p E m w wr er a o k := by
 obtain ⟨c, hc, h⟩ := evC_inv ho hA h
 cases c with
 | ptr b i es j =>
  rcases hc with hc | ⟨hb, a_, base, h1, h2⟩
  ·cases hc
  refine ⟨_, _, h, .inr ⟨hb, a_, base, h1, rfl⟩, fun w' _ => ?_⟩
  simp [execOp, hop, h2]
 | gp row j =>
  rcases hc with hc | ⟨a_, off, h1, h2, h3⟩
  ·cases hc
  refine ⟨_, _, h, .inr ⟨a_, off, rfl, h2, h3⟩, fun w' _ => ?_⟩
  simp [execOp, hop, h1]
 | _ => exact (holds_fail h).elim
theorem q_field {s : TypeId} {fs : Array Field} {f : Nat} {fd : Field} {X : Operand} {x : Opd} {ag : Option Nat} (hop : o.op = .field s X f) (hs : P.underlying s = some (.struct fs)) (hf : fs[f]? = some fd) (hag : agOf P fd.type = some ag)
  (ho : opd X = some x) (hA : At E m w ts a) (h : Holds P I p (evOp I er wr (.field fd.offset ag x) ts m k)) : QRes P I p E m w wr er a o k := by
 obtain ⟨c, hc, h⟩ := ev1_inv ho hA h
 cases c with
 | c x => exact (holds_fail h).elim
 | agg l =>
  obtain ⟨cs, h1, h2, h3⟩ := hc
  obtain ⟨av, v, g1, g2, g3⟩ := part_at hag h h2 h3
  refine ⟨_, v, g1, g2, fun w' _ => ?_⟩
  simp [execOp, hop, h1, Instr.field, run_underlying hs, hf, asAgg, g3]
theorem q_extract {X : Operand} {x : Opd} {i : Nat} (hop : o.op = .extract X i) (ho : opd X = some x) (hA : At E m w ts a) (h : Holds P I p (evOp I er wr (.extract x i) ts m k)) : QRes P I p E m w wr er a o k := by
 have hr := opd_rep ho hA
 simp only [evOp] at h
 split at h
 ·rename_i l hv
  rw [hv] at hr
  obtain ⟨us, h1, h2, h3⟩ := hr
  split at h
  ·rename_i v hi
   obtain ⟨u, g1, g2⟩ := h3 i v hi
   refine ⟨_, u, h, g2, fun w' _ => ?_⟩
   simp [execOp, hop, h1, Instr.extract, g1]
  ·exact (holds_fail h).elim
 ·exact (holds_fail h).elim
theorem size_run {t : TypeId} {n : Nat} (h : size? P t = some n) (w' : World) : (sizeOf t).run P w' = .ok n w' := by
 unfold size? at h
 cases hq : P.info? t with
 | none => simp [hq] at h
 | some i =>
  have : i.size = n := by simpa [hq] using h
  simp [sizeOf, typeInfo, hq, this]
theorem zIdx_inv {lit : Bool} {z : Z} {n : NN} {k : NN → Tree} (h : Holds P I p (zIdx lit z n k)) : ∃ i : NN, z.val = (i.val : Int) ∧ i.val < n.val ∧ Holds P I p (k i) := by
 unfold zIdx at h
 split at h
 ·rename_i z n
  split at h
  ·rename_i h1 h2
   have h1 := of_decide_eq_true h1
   have h2 := of_decide_eq_true h2
   exact ⟨_, by show z = ((z.toNat : Nat) : Int); omega, by show z.toNat < n; omega, h⟩
  ·exact (holds_fail h).elim
 ·cases h with
  | idx i h1 h2 h =>
   cases lit
   ·exact ⟨.sym i, h1, h2, h⟩
   ·exact ⟨.lit i, h1, h2, h⟩

theorem zRng_inv {lo hi : Option Z} {n : NN} {k : NN → NN → Tree} (h : Holds P I p (zRng lo hi n k)) :
  ∃ l r : NN, (lo.map Z.val).getD 0 = (l.val : Int) ∧ (hi.map Z.val).getD n.val = (r.val : Int) ∧ l.val ≤ r.val ∧ r.val ≤ n.val ∧ Holds P I p (k l r) := by
 unfold zRng at h
 split at h
 ·exact ⟨.lit 0, n, rfl, rfl, Nat.zero_le _, Nat.le_refl _, h⟩
 ·split at h
  ·rename_i h1 h2
   have h1 := of_decide_eq_true h1
   have h2 := of_decide_eq_true h2
   exact ⟨_, _, rfl, by simp; omega, Nat.zero_le _, by simp; omega, h⟩
  ·exact (holds_fail h).elim
 ·split at h
  ·rename_i h1 h2
   have h1 := of_decide_eq_true h1
   have h2 := of_decide_eq_true h2
   exact ⟨_, _, by simp; omega, rfl, by simp; omega, Nat.le_refl _, h⟩
  ·exact (holds_fail h).elim
 ·split at h
  ·rename_i h1 h2 h3
   have h1 := of_decide_eq_true h1
   have h2 := of_decide_eq_true h2
   have h3 := of_decide_eq_true h3
   exact ⟨_, _, by simp; omega, by simp; omega, by simp; omega, by simp; omega, h⟩
  ·exact (holds_fail h).elim
 ·cases h with
  | rng l r h1 h2 h3 h4 h =>
   refine ⟨_, _, ?_, ?_, ?_, ?_, h⟩
   ·cases lo with
    | none => rfl
    | some z => cases z <;> simp at h1 ⊢ <;> omega
   ·cases hi with
    | none => rfl
    | some z => cases z <;> simp at h2 ⊢ <;> omega
   ·rcases lo with _ | (z | z) <;> rcases hi with _ | (y | y) <;> simp at h1 h2 ⊢ <;> omega
   ·rcases hi with _ | (y | y) <;> simp at h2 ⊢ <;> omega
theorem nAdd_val (hI : I = ints) (x y : NN) : (nAdd I x y).val = x.val + y.val := by
 subst hI
 unfold nAdd
 split <;> simp [ints]
theorem nSub_val (hI : I = ints) (x y : NN) : (nSub I x y).val = x.val - y.val := by
 subst hI
 unfold nSub
 split <;> simp [ints]
theorem zOfN_val (hI : I = ints) (x : NN) : (zOfN I x).val = (x.val : Int) := by
 subst hI
 cases x <;> rfl
theorem blk_len_val (hI : I = ints) (b : Blk) : (b.len I).val = b.rows.length := by
 subst hI
 cases b <;> simp [Blk.len, Blk.rows, ints]
/-- The length of a slice. -/
theorem lenOf_rep (hI : I = ints) (hs : Sat E m w) {c : C} {n : NN} {v : Value} (h : lenOf I c m = some n) (hc : c = .any ∨ CRep E m w c v) : ∃ A c', v = .slice A n.val c' ∧ n.val ≤ c' := by
 subst hI
 unfold lenOf at h
 split at h
 ·cases h
  rcases hc with hc | hc
  ·cases hc
  ·cases hc
   exact ⟨none, 0, rfl, Nat.le_refl _⟩
 ·cases h
  rcases hc with hc | hc
  ·cases hc
  ·cases hc with
   | rows u hc hr hg => exact ⟨_, _, rfl, hc⟩
 ·cases h
  rcases hc with hc | ⟨A, c, u, h1, h2, _⟩
  ·cases hc
  ·exact ⟨A, c, h1, h2⟩
 ·rename_i b es cap
  split at h
  ·cases h
  ·rename_i blk hb hm
   cases h
   rcases hc with hc | ⟨h0, ho, hc⟩
   ·cases hc
   rw [blk_len_val rfl]
   have hl : blk.live := by cases blk <;> first | trivial | exact absurd rfl hb
   obtain ⟨k1, k2, k3⟩ := hc blk hm hl
   rcases k3 with ⟨e1, e2⟩ | ⟨a, base, c, e1, e2, e3, _⟩
   ·rcases hs.rep b blk hm hl with ⟨_, e3⟩ | ⟨a', base', e3, _⟩
    ·rw [e3]; exact ⟨none, 0, e2, Nat.le_refl _⟩
    ·rw [e1] at e3; cases e3
   ·exact ⟨_, _, e2, e3⟩
  ·cases h
 ·rename_i b i es n' cap
  split at h
  ·cases h
  ·rename_i blk hb hm
   cases h
   rcases hc with hc | ⟨h0, ho, hc⟩
   ·cases hc
   have hl : blk.live := by cases blk <;> first | trivial | exact absurd rfl hb
   obtain ⟨k1, k2, k3, k4⟩ := hc blk hm hl
   rcases k4 with ⟨e1, e2, e3⟩ | ⟨a, base, c, off, e1, e2, e3, e4, _⟩
   ·rw [e3]; exact ⟨none, 0, e2, Nat.le_refl _⟩
   ·exact ⟨_, _, e2, e4⟩
  ·cases h
 ·cases h
theorem q_len {t e ty : TypeId} {X : Operand} {x : Opd} {ats : Array TypeId} (hI : I = ints) (hop : o.op = .call { callee := .builtin .len, args := #[X], argTypes := ats }) (h0 : ats[0]? = some t) (ht : P.underlying t = some (.slice e))
  (ho : opd X = some x) (hA : At E m w ts a) (h : Holds P I p (evOp I er wr (.len x) ts m k)) : QRes P I p E m w wr er a o k := by
 obtain ⟨c, hc, h⟩ := evC_inv ho hA h
 split at h
 ·rename_i n hn
  obtain ⟨A_, c', h1, h2⟩ := lenOf_rep hI hA.sat hn hc
  refine ⟨_, _, h, num_rep _ _, fun w' _ => ?_⟩
  rw [zOfN_val hI]
  simp [execOp, hop, resolve, invoke, builtin, h1, Builtin.len_, h0, run_underlying ht, goInt]
 ·exact (holds_fail h).elim
theorem q_cap {t e ty : TypeId} {X : Operand} {x : Opd} {ats : Array TypeId} (hI : I = ints) (hop : o.op = .call { callee := .builtin .cap, args := #[X], argTypes := ats }) (h0 : ats[0]? = some t) (ht : P.underlying t = some (.slice e))
  (ho : opd X = some x) (hA : At E m w ts a) (h : Holds P I p (evOp I er wr (.cap x) ts m k)) : QRes P I p E m w wr er a o k := by
 obtain ⟨c, hc, h⟩ := evC_inv ho hA h
 have key : ∃ n : NN, (∃ A_ l, a.eval X = .slice A_ l n.val) ∧ Holds P I p (k (.one (.c (.g (.int .i64 (zOfN I n))))) m) := by
  cases c with
  | row b es cap =>
   cases cap with
   | none => exact (holds_fail h).elim
   | some c' =>
    cases hm : m[b]? with
    | none => simp only [hm] at h; exact (holds_fail h).elim
    | some blk =>
     cases blk with
     | dead => simp only [hm] at h; exact (holds_fail h).elim
     | _ =>
      simp only [hm] at h
      rcases hc with hc | ⟨h1, ho, hc⟩
      ·cases hc
      obtain ⟨k1, k2, k3⟩ := hc _ hm trivial
      refine ⟨c', ?_, h⟩
      rcases k3 with ⟨e1, e2⟩ | ⟨a, base, c, e1, e2, e3, e4, _⟩
      ·rcases hA.sat.rep b _ hm trivial with ⟨_, e3⟩ | ⟨a', base', e3, _⟩
       ·have := k2 c' rfl
        rw [e3] at this
        rw [this]
        exact ⟨_, _, e2⟩
       ·rw [e1] at e3; cases e3
      ·rw [← e4 c' rfl]; exact ⟨_, _, e2⟩
  | sl b i es n cap =>
   cases cap with
   | none => exact (holds_fail h).elim
   | some c' =>
    cases hm : m[b]? with
    | none => simp only [hm] at h; exact (holds_fail h).elim
    | some blk =>
     cases blk with
     | dead => simp only [hm] at h; exact (holds_fail h).elim
     | _ =>
      simp only [hm] at h
      rcases hc with hc | ⟨h1, ho, hc⟩
      ·cases hc
      obtain ⟨k1, k2, k3, k4⟩ := hc _ hm trivial
      refine ⟨c', ?_, h⟩
      rcases k4 with ⟨e1, e2, e3⟩ | ⟨a, base, c, off, e1, e2, e3, e4, e5, _⟩
      ·rcases hA.sat.rep b _ hm trivial with ⟨_, e4⟩ | ⟨a', base', e4, _⟩
       ·have := k3 c' rfl
        rw [e4] at this
        rw [show c'.val = 0 by simpa using (by simp at this; omega)]
        exact ⟨_, _, e2⟩
       ·rw [e1] at e4; cases e4
      ·rw [← e5 c' rfl]; exact ⟨_, _, e2⟩
  | g x => cases x with
   | rows es l => cases l <;> exact (holds_fail h).elim
   | nil =>
    refine ⟨.lit 0, ?_, h⟩
    rcases hc with hc | hc
    ·cases hc
    ·generalize a.eval X = u at hc
     cases hc
     exact ⟨_, _, rfl⟩
   | _ => exact (holds_fail h).elim
  | _ => exact (holds_fail h).elim
 obtain ⟨n, ⟨A_, l, h1⟩, h⟩ := key
 refine ⟨_, _, h, num_rep _ _, fun w' _ => ?_⟩
 rw [zOfN_val hI]
 simp [execOp, hop, resolve, invoke, builtin, h1, Builtin.cap_, h0, run_underlying ht, goInt]
theorem evZs_inv : ∀ {l : List Operand} {xs : List Opd} {k : List Z → Tree}, opds l = some xs → At E m w ts a → Holds P I p (evZs ts xs k) →
  ∃ zs : List Z, zs.length = l.length ∧ (∀ (j : Nat) (X : Operand), l[j]? = some X → ∃ i z, zs[j]? = some z ∧ a.eval X = .int i z.val) ∧ Holds P I p (k zs)
 | [], xs, k, ho, hA, h => by
  cases ho
  exact ⟨[], rfl, fun j X hj => by simp at hj, h⟩
 | X :: r, xs, k, ho, hA, h => by
  simp only [opds] at ho
  split at ho
  ·rename_i x l hx hl
   cases ho
   obtain ⟨i, z, hz, h⟩ := evZ_inv hx hA h
   obtain ⟨zs, h1, h2, h⟩ := evZs_inv hl hA h
   refine ⟨z :: zs, by simp [h1], fun j Y hj => ?_, h⟩
   cases j with
   | zero => simp at hj; subst hj; exact ⟨i, z, rfl, hz⟩
   | succ j => simpa using h2 j Y (by simpa using hj)
  ·cases ho
theorem zMx_val (hI : I = ints) (mx : Bool) (x y : Z) : (zMx I mx x y).val = match mx with | true => (if y.val > x.val then y.val else x.val) | false => (if y.val < x.val then y.val else x.val) := by
 subst hI
 cases x <;> cases y <;> cases mx <;> rfl
theorem run_mnmx (mx : Bool) (hI : I = ints) (i : IntKind) (w' : World) : ∀ (l : List Operand) (zs : List Z) (z0 : Z), zs.length = l.length → (∀ (j : Nat) (X : Operand), l[j]? = some X → ∃ i z, zs[j]? = some z ∧ a.eval X = .int i z.val) →
  ((l.map a.eval).foldlM (match mx with | true => Builtin.max2 | false => Builtin.min2) (.int i z0.val)).run P w' = .ok (.int i (zs.foldl (zMx I mx) z0).val) w'
 | [], zs, z0, hl, _ => by
  obtain rfl : zs = [] := List.eq_nil_of_length_eq_zero (by simpa using hl)
  simp
 | X :: r, zs, z0, hl, h => by
  cases zs with
  | nil => simp at hl
  | cons z zs =>
   obtain ⟨j, z', hz, hX⟩ := h 0 X rfl
   simp at hz
   subst hz
   have ih := run_mnmx mx hI i w' r zs (zMx I mx z0 z) (by simpa using hl) (fun j Y hj => by simpa using h (j + 1) Y (by simpa using hj))
   rw [zMx_val hI] at ih
   cases mx <;> simp only [List.map_cons, List.foldlM_cons, hX, Builtin.max2, Builtin.min2, List.foldl_cons, Sem.run_bind, Sem.run_pure, Result.andThen_ok] at ih ⊢ <;> exact ih
theorem q_mnmx {mx : Bool} {X : Operand} {L : List Operand} {args : Array Operand} {x : Opd} {l : List Opd} {ats : Array TypeId} (hI : I = ints) (hop : o.op = .call { callee := .builtin (match mx with | true => .max | false => .min), args := args, argTypes := ats }) (ha : args.toList = X :: L)
  (ho : opd X = some x) (hol : opds L = some l) (hA : At E m w ts a) (h : Holds P I p (evOp I er wr (.mnmx mx x l) ts m k)) : QRes P I p E m w wr er a o k := by
 obtain ⟨i, z, hz, h⟩ := evZ_inv ho hA h
 obtain ⟨zs, h1, h2, h⟩ := evZs_inv hol hA h
 refine ⟨_, _, h, num_rep _ _, fun w' _ => ?_⟩
 have hr := run_mnmx (P := P) (a := a) mx hI i w' L zs z h1 h2
 have hm : (args.map a.eval).toList = .int i z.val :: L.map a.eval := by simp [ha, hz]
 cases mx <;> simp only [execOp, hop, resolve, invoke, builtin, Builtin.max_, Builtin.min_, hm, Sem.run_bind, Sem.run_pure, Result.andThen_ok, hr]
theorem run_asIntOf (i : IntKind) (n : Int) (w' : World) : (asIntOf (.int i n)).run P w' = .ok (i, n) w' := rfl
theorem run_index_slice {t e : TypeId} {es : Nat} (ht : P.underlying t = some (.slice e)) (hs : size? P e = some es) (A_ : Addr) (n c j : Nat) (i : IntKind) (hj : j < n) (w' : World) :
  (Instr.indexAt t (.slice (some A_) n c) (.int i (j : Int))).run P w' = .ok (.pointer (some (A_.add (j * es)))) w' := by
 have h1 : (0 : Int) ≤ (j : Int) ∧ (j : Int) < (n : Int) := by omega
 simp [Instr.indexAt, run_asIntOf, run_underlying ht, size_run hs, hj]
theorem run_index_arr {t e : TypeId} {es n : Nat} (ht : P.underlying t = some (.array n e)) (hs : size? P e = some es) (A_ : Addr) (j : Nat) (i : IntKind) (hj : j < n) (w' : World) :
  (Instr.indexAt t (.pointer (some A_)) (.int i (j : Int))).run P w' = .ok (.pointer (some (A_.add (j * es)))) w' := by
 simp [Instr.indexAt, run_asIntOf, run_underlying ht, size_run hs, hj, Instr.sureAddr]
theorem at_add (a off n : Nat) : (at_ a off).add n = at_ a (off + n) := Addr.add_mid a off n
theorem q_indexArr {t e : TypeId} {es n : Nat} {X Y : Operand} {x y : Opd} (hop : o.op = .indexAddr t X Y) (ht : P.underlying t = some (.array n e)) (hz : size? P e = some es)
  (ho : opd X = some x) (ho' : opd Y = some y) (hA : At E m w ts a) (h : Holds P I p (evOp I er wr (.indexAddr (some n) es x y) ts m k)) : QRes P I p E m w wr er a o k := by
 obtain ⟨c, hc, h⟩ := evC_inv ho hA h
 obtain ⟨i, z, hz', h⟩ := evZ_inv ho' hA h
 cases c with
 | ptr b q es' j =>
  simp only at h
  obtain ⟨r, h1, h2, h⟩ := zIdx_inv h
  rcases hc with hc | ⟨hb, a_, base, h3, h4⟩
  ·cases hc
  cases r with
  | sym r => exact (holds_fail h).elim
  | lit r =>
   refine ⟨_, .pointer (some (at_ a_ (base + (q.val * es' + (j + r * es))))), h, .inr ⟨hb, a_, base, h3, rfl⟩, fun w' _ => ?_⟩
   simp only [NN.val_lit] at h1 h2
   simp [execOp, hop, h4, hz', h1, run_index_arr ht hz _ r i h2, at_add, Nat.add_assoc]
 | _ => exact (holds_fail h).elim
theorem q_indexRow {t e : TypeId} {es : Nat} {X Y : Operand} {x y : Opd} (hI : I = ints) (hop : o.op = .indexAddr t X Y) (ht : P.underlying t = some (.slice e)) (hz : size? P e = some es)
  (ho : opd X = some x) (ho' : opd Y = some y) (hA : At E m w ts a) (h9 : Holds P I p (evOp I er wr (.indexAddr none es x y) ts m k)) : QRes P I p E m w wr er a o k := by
 obtain ⟨c, hc, h8⟩ := evC_inv ho hA h9
 clear h9
 obtain ⟨i, z, hz', h⟩ := evZ_inv ho' hA h8
 clear h8
 -- a row that is read
 have rd : ∀ (l : List (List G)) (A_ : Option Addr) (c' : Nat) (u : Nat → Nat → Value) (r : NN), a.eval X = .slice A_ l.length c' → l.length ≤ c' → RowAt w (fun k => E.F k ∨ E.B k) es l A_ u →
   (∀ (i : Nat) (r : List G) (j : Nat) (x : G), l[i]? = some r → r[j]? = some x → GRep E.F w x (u i j)) → z.val = (r.val : Int) → r.val < l.length →
   Holds P I p (.nth l r.val fun r => k (.one (.c (.gp r 0))) m) → QRes P I p E m w wr er a o k := by
  intro l A_ c' u r e1 e2 e3 e4 e5 e6 h
  cases h with
  | nth g hg h =>
  obtain ⟨a_, off, hA', hT⟩ := e3.some_ (by rintro rfl; simp at hg)
  refine ⟨_, .pointer (some (at_ a_ (off + r.val * es))), h, .inr ⟨a_, off + r.val * es, by simp, hT, fun j x hj => ?_⟩, fun w' _ => ?_⟩
  ·obtain ⟨a2, off2, q1, q2, q3⟩ := e3.cell _ _ j x hg hj
   rw [hA'] at q1
   simp only [at_, Option.some.injEq, Addr.mk.injEq, and_true] at q1
   obtain ⟨rfl, rfl⟩ := q1
   exact ⟨_, by rw [Nat.add_assoc]; exact q3, e4 _ _ _ _ hg hj⟩
  ·simp [execOp, hop, e1, hz', e5, hA', run_index_slice ht hz _ _ _ _ i e6, at_add]
 cases c with
 | g x =>
  cases x with
  | rows es' l =>
   simp only at h
   split at h
   ·rename_i he
    obtain rfl : es = es' := by simpa using he
    obtain ⟨r, h1, h2, h⟩ := zIdx_inv h
    rcases hc with hc | hc
    ·cases hc
    generalize hv : a.eval X = v at hc
    cases hc with
    | rows u g1 g2 g3 => exact rd l _ _ u r hv g1 (g2.step (fun _ h => .inl h) (fun _ _ => rfl)) g3 h1 (by subst hI; exact h2) h
   ·exact (holds_fail h).elim
  | _ => exact (holds_fail h).elim
 | bor es' l =>
  simp only at h
  split at h
  ·rename_i he
   obtain rfl : es = es' := by simpa using he
   obtain ⟨r, h1, h2, h⟩ := zIdx_inv h
   rcases hc with hc | ⟨A_, c', u, g1, g2, g3, g4⟩
   ·cases hc
   exact rd l A_ c' u r g1 g2 g3 g4 h1 (by subst hI; exact h2) h
  ·exact (holds_fail h).elim
 | row b es' cap =>
  have key : ∃ (blk : Blk) (r : NN), m[b]? = some blk ∧ blk.live ∧ es = es' ∧ z.val = (r.val : Int) ∧ r.val < blk.rows.length ∧ Holds P I p (k (.one (.c (.ptr b r es 0))) m) := by
   simp only at h
   split at h
   ·rename_i he hm
    obtain ⟨r, h1, h2, h⟩ := zIdx_inv h
    exact ⟨_, r, hm, trivial, by simpa using he, h1, h2, h⟩
   ·rename_i he hm
    obtain ⟨r, h1, h2, h⟩ := zIdx_inv h
    exact ⟨_, r, hm, trivial, by simpa using he, h1, by subst hI; simpa [Blk.rows, ints] using h2, h⟩
   ·exact (holds_fail h).elim
  obtain ⟨blk, r, hm, hl, rfl, h1, h2, h⟩ := key
  rcases hc with hc | ⟨h0, ho, hc⟩
  ·cases hc
  obtain ⟨k1, k2, k3⟩ := hc blk hm hl
  rcases k3 with ⟨e1, e2⟩ | ⟨a_, base, c, e1, e2, e3, _⟩
  ·rcases hA.sat.rep b blk hm hl with ⟨_, e3⟩ | ⟨a', base', e3, _⟩
   ·rw [e3] at h2; simp at h2
   ·rw [e1] at e3; cases e3
  ·refine ⟨_, .pointer (some (at_ a_ (base + (r.val * es + 0)))), h, .inr ⟨h0, a_, base, e1, rfl⟩, fun w' _ => ?_⟩
   simp [execOp, hop, e2, hz', h1, run_index_slice ht hz _ _ _ _ i h2, at_add]
 | sl b o' es' n cap =>
  have key : ∃ (blk : Blk) (r : NN), m[b]? = some blk ∧ blk.live ∧ es = es' ∧ z.val = (r.val : Int) ∧ r.val < n.val ∧ Holds P I p (k (.one (.c (.ptr b (nAdd I o' r) es 0))) m) := by
   simp only at h
   split at h
   ·rename_i he hm
    obtain ⟨r, h1, h2, h⟩ := zIdx_inv h
    exact ⟨_, r, hm, trivial, by simpa using he, h1, h2, h⟩
   ·rename_i he hm
    obtain ⟨r, h1, h2, h⟩ := zIdx_inv h
    exact ⟨_, r, hm, trivial, by simpa using he, h1, h2, h⟩
   ·exact (holds_fail h).elim
  obtain ⟨blk, r, hm, hl, rfl, h1, h2, h⟩ := key
  rcases hc with hc | ⟨h0, ho, hc⟩
  ·cases hc
  obtain ⟨k1, k2, k3, k4⟩ := hc blk hm hl
  rcases k4 with ⟨e1, e2, e3⟩ | ⟨a_, base, c, off, e1, e2, e3, e4, _⟩
  ·omega
  ·have := e3 (by omega)
   subst this
   refine ⟨_, .pointer (some (at_ a_ (base + ((nAdd I o' r).val * es + 0)))), h, .inr ⟨h0, a_, base, e1, rfl⟩, fun w' _ => ?_⟩
   simp [execOp, hop, e2, hz', h1, run_index_slice ht hz _ _ _ _ i h2, at_add, nAdd_val hI, Nat.add_mul, Nat.add_assoc]
 | _ => exact (holds_fail h).elim
theorem q_index {t e : TypeId} {es n : Nat} {X Y : Operand} {x y : Opd} {ag : Option Nat} (hop : o.op = .index t X Y) (ht : P.underlying t = some (.array n e)) (hz : size? P e = some es) (hag : agOf P e = some ag)
  (ho : opd X = some x) (ho' : opd Y = some y) (hA : At E m w ts a) (h : Holds P I p (evOp I er wr (.index n es ag x y) ts m k)) : QRes P I p E m w wr er a o k := by
 obtain ⟨c, hc, h⟩ := ev1_inv ho hA h
 obtain ⟨i, z, hz', h⟩ := evZ_inv ho' hA h
 cases c with
 | c x => exact (holds_fail h).elim
 | agg l =>
  simp only at h
  obtain ⟨r, h1, h2, h⟩ := zIdx_inv h
  cases r with
  | sym r => exact (holds_fail h).elim
  | lit r =>
   obtain ⟨cs, g1, g2, g3⟩ := hc
   obtain ⟨av, v, f1, f2, f3⟩ := part_at hag h g2 g3
   refine ⟨_, v, f1, f2, fun w' _ => ?_⟩
   simp only [NN.val_lit] at h1 h2
   simp [execOp, hop, g1, hz', Instr.index, run_asIntOf, run_underlying ht, h1, h2, size_run hz, f3]
theorem ext_get {α : Type} {l : List α} {p q i : Nat} {x : α} (h : ((l.take q).drop p)[i]? = some x) : p + i < q ∧ l[p + i]? = some x := by
 rw [List.getElem?_drop, List.getElem?_take] at h
 split at h
 ·exact ⟨by assumption, h⟩
 ·cases h
theorem RowAt.ext {T : Nat → Prop} {es : Nat} {l : List (List G)} {A_ : Option Addr} {u : Nat → Nat → Value} {p q c : Nat} (h : RowAt w T es l A_ u) (hq : q ≤ l.length) (hc : l.length ≤ c) :
  RowAt w T es ((l.take q).drop p) (if c = p then A_ else A_.map (·.add (p * es))) (fun i j => u (p + i) j) where
 wid := fun i r hi => h.wid _ r (ext_get hi).2
 cell := fun i r j x hi hj => by
  obtain ⟨hlt, hi⟩ := ext_get hi
  obtain ⟨a_, off, h1, h2, h3⟩ := h.cell _ r j x hi hj
  rw [if_neg (by omega), h1]
  exact ⟨a_, off + p * es, by simp [at_add], h2, by rw [← h3, Nat.add_mul]; congr 2; omega⟩
 some_ := fun hne => by
  have : p < q := by
   rcases Nat.lt_or_ge p q with h' | h'
   ·exact h'
   ·exact absurd (List.drop_eq_nil_of_le (by simp; omega)) hne
  obtain ⟨a_, off, h1, h2⟩ := h.some_ (by rintro rfl; simp at hq; omega)
  rw [if_neg (by omega), h1]
  exact ⟨a_, off + p * es, by simp [at_add], h2⟩
theorem run_slice {t e : TypeId} {es : Nat} (ht : P.underlying t = some (.slice e)) (hs : size? P e = some es) (A_ : Option Addr) (n c l r : Nat) (lo hi : Option Value) (i j : IntKind)
  (h1 : lo = none ∧ l = 0 ∨ lo = some (.int i (l : Int))) (h2 : hi = none ∧ r = n ∨ hi = some (.int j (r : Int)) ∧ r ≤ c) (h3 : l ≤ r) (w' : World) :
  (Instr.sliceAt t (.slice A_ n c) lo hi none).run P w' = .ok (.slice (if c = l then A_ else A_.map (·.add (l * es))) (r - l) (c - l)) w' := by
 rcases h1 with ⟨rfl, rfl⟩ | rfl <;> rcases h2 with ⟨rfl, rfl⟩ | ⟨rfl, h2⟩ <;>
  simp [Instr.sliceAt, Instr.slice, Instr.sliceBounds, Instr.sliceBound, run_asIntOf, run_underlying ht, size_run hs, *]
theorem evZ?_inv {X : Option Operand} {x : Option Opd} {k : Option Z → Tree} (ho : compOpt X = some x) (hA : At E m w ts a) (h : Holds P I p (evZ? ts x k)) :
  ∃ z : Option Z, (z = none ∧ X.map a.eval = none ∨ ∃ i y, z = some y ∧ X.map a.eval = some (.int i y.val)) ∧ (x = none ↔ z = none) ∧ Holds P I p (k z) := by
 unfold compOpt at ho
 split at ho
 ·cases ho
  exact ⟨none, .inl ⟨rfl, rfl⟩, by simp, h⟩
 ·split at ho
  ·rename_i hx
   cases ho
   obtain ⟨i, z, hz, h⟩ := evZ_inv hx hA h
   exact ⟨some z, .inr ⟨i, z, rfl, by simp [hz]⟩, by simp, h⟩
  ·cases ho
theorem q_slice {t e : TypeId} {es : Nat} {X : Operand} {Lo Hi : Option Operand} {x : Opd} {lo hi : Option Opd} (hI : I = ints) (hop : o.op = .slice t X Lo Hi none) (ht : P.underlying t = some (.slice e)) (hz : size? P e = some es)
  (ho : opd X = some x) (hlo : compOpt Lo = some lo) (hhi : compOpt Hi = some hi) (hA : At E m w ts a) (h9 : Holds P I p (evOp I er wr (.slice es x lo hi) ts m k)) : QRes P I p E m w wr er a o k := by
 obtain ⟨c, hc, h8⟩ := evC_inv ho hA h9
 clear h9
 obtain ⟨zl, hl, -, h7⟩ := evZ?_inv hlo hA h8
 clear h8
 obtain ⟨zh, hh, hn, h⟩ := evZ?_inv hhi hA h7
 clear h7
 -- what the operation does, by its bounds
 have run : ∀ (A_ : Option Addr) (n c' : Nat) (l r : NN), a.eval X = .slice A_ n c' → (zl.map Z.val).getD 0 = (l.val : Int) → (zh.map Z.val).getD n = (r.val : Int) → l.val ≤ r.val → (zh ≠ none → r.val ≤ c') →
   ∀ w', (execOp a.eval o).run P w' = .ok (.value (.slice (if c' = l.val then A_ else A_.map (·.add (l.val * es))) (r.val - l.val) (c' - l.val))) w' := by
  intro A_ n c' l r e1 e2 e3 e4 e5 w'
  have h1 : ∃ i, Lo.map a.eval = none ∧ l.val = 0 ∨ Lo.map a.eval = some (.int i (l.val : Int)) := by
   rcases hl with ⟨rfl, hl⟩ | ⟨i, y, rfl, hl⟩
   ·exact ⟨.i64, .inl ⟨hl, by simp at e2; omega⟩⟩
   ·exact ⟨i, .inr (by rw [hl]; simp at e2; rw [e2])⟩
  have h2 : ∃ i, Hi.map a.eval = none ∧ r.val = n ∨ Hi.map a.eval = some (.int i (r.val : Int)) ∧ r.val ≤ c' := by
   rcases hh with ⟨rfl, hh⟩ | ⟨i, y, rfl, hh⟩
   ·exact ⟨.i64, .inl ⟨hh, by simp at e3; omega⟩⟩
   ·exact ⟨i, .inr ⟨by rw [hh]; simp at e3; rw [e3], e5 (by simp)⟩⟩
  obtain ⟨i, h1⟩ := h1
  obtain ⟨j, h2⟩ := h2
  simp [execOp, hop, e1, run_slice ht hz A_ n c' l.val r.val (Lo.map a.eval) (Hi.map a.eval) i j h1 h2 e4]
 cases c with
 | g x =>
  cases x with
  | nil =>
   rcases hc with hc | hc
   ·cases hc
   generalize hv : a.eval X = v at hc
   cases hc
   simp only at h
   obtain ⟨q, r, h1, h2, h3, h4, h⟩ := zRng_inv h
   simp only [NN.val_lit] at h4
   have hr : r.val = 0 := by omega
   have hq : q.val = 0 := by omega
   refine ⟨_, _, h, .inr GRep.nil, fun w' _ => ?_⟩
   have := run none 0 0 q r hv h1 (by simpa using h2) h3 (fun _ => by omega) w'
   simpa [hr, hq] using this
  | rows es' l =>
   rcases hc with hc | hc
   ·cases hc
   generalize hv : a.eval X = v at hc
   cases hc with
   | rows u g1 g2 g3 =>
   rename_i A_ c'
   simp only at h
   split at h
   ·rename_i he
    obtain rfl : es = es' := by simpa using he
    obtain ⟨q, r, h1, h2, h3, h4, h⟩ := zRng_inv h
    subst hI
    have h4' : r.val ≤ l.length := h4
    have hlen : ((l.take r.val).drop q.val).length = r.val - q.val := by simp; omega
    refine ⟨_, _, h, .inr (GRep.rows (l := ints.ext l q.val r.val) (fun i j => u (q.val + i) j) (c := c' - q.val) ?_ (g2.ext h4' g1) (fun i r' j x hi hj => g3 _ r' j x (ext_get hi).2 hj)), fun w' _ => ?_⟩
    ·show ((l.take r.val).drop q.val).length ≤ _
     rw [hlen]; omega
    ·have := run A_ _ c' q r hv h1 h2 h3 (fun _ => by omega) w'
     rw [this]
     show _ = Result.ok (Next.value (.slice _ ((l.take r.val).drop q.val).length _)) _
     rw [hlen]
   ·exact (holds_fail h).elim
  | _ => exact (holds_fail h).elim
 | bor es' l =>
  simp only at h
  split at h
  ·rename_i he
   obtain rfl : es = es' := by simpa using he
   obtain ⟨q, r, h1, h2, h3, h4, h⟩ := zRng_inv h
   rcases hc with hc | ⟨A_, c', u, g0, g1, g2, g3⟩
   ·cases hc
   subst hI
   have h4' : r.val ≤ l.length := h4
   have hlen : ((l.take r.val).drop q.val).length = r.val - q.val := by simp; omega
   refine ⟨_, .slice (if c' = q.val then A_ else A_.map (·.add (q.val * es))) (r.val - q.val) (c' - q.val), h, .inr ⟨if c' = q.val then A_ else A_.map (·.add (q.val * es)), c' - q.val, fun i j => u (q.val + i) j, ?_, ?_, g2.ext h4' g1, fun i r' j x hi hj => g3 _ r' j x (ext_get hi).2 hj⟩, fun w' _ => ?_⟩
   ·show _ = Value.slice _ ((l.take r.val).drop q.val).length _
    rw [hlen]
   ·show ((l.take r.val).drop q.val).length ≤ _
    rw [hlen]; omega
   ·exact run A_ _ c' q r g0 h1 h2 h3 (fun _ => by omega) w'
  ·exact (holds_fail h).elim
 | row b es' cap =>
  have key : ∃ (blk : Blk) (q r : NN), m[b]? = some blk ∧ blk.live ∧ es = es' ∧ (zl.map Z.val).getD 0 = (q.val : Int) ∧ (zh.map Z.val).getD blk.rows.length = (r.val : Int) ∧ q.val ≤ r.val ∧ r.val ≤ blk.rows.length ∧
    Holds P I p (k (.one (.c (.sl b q es (nSub I r q) (cap.map fun c => nSub I c q)))) m) := by
   simp only at h
   split at h
   ·exact (holds_fail h).elim
   ·rename_i blk hd he hm
    obtain ⟨q, r, h1, h2, h3, h4, h⟩ := zRng_inv h
    rw [blk_len_val hI] at h2 h4
    exact ⟨blk, q, r, hm, by cases blk <;> first | trivial | exact absurd rfl hd, by simpa using he, h1, h2, h3, h4, h⟩
   ·exact (holds_fail h).elim
  obtain ⟨blk, q, r, hm, hl', rfl, h1, h2, h3, h4, h⟩ := key
  rcases hc with hc | ⟨h0, ho', hc⟩
  ·cases hc
  obtain ⟨k1, k2, k3⟩ := hc blk hm hl'
  rcases k3 with ⟨e1, e2⟩ | ⟨a_, base, c, e1, e2, e3, e4, e5⟩
  ·rcases hA.sat.rep b blk hm hl' with ⟨_, e3⟩ | ⟨a', base', e3, _⟩
   ·have hz0 : blk.rows.length = 0 := by rw [e3]; rfl
    have hr0 : r.val = 0 := by omega
    have hq0 : q.val = 0 := by omega
    refine ⟨_, .slice none 0 0, h, .inr ⟨h0, rfl, fun blk' hb' hlb => ?_⟩, fun w' _ => ?_⟩
    ·rw [hm] at hb'; cases hb'
     refine ⟨k1, by rw [nSub_val hI]; omega, fun c' hc' => ?_, .inl ⟨e1, rfl, by rw [nSub_val hI]; omega⟩⟩
     cases cap with
     | none => cases hc'
     | some c0 => cases hc'; rw [nSub_val hI, k2 c0 rfl]; omega
    ·have := run none 0 0 q r e2 h1 (by rw [hz0] at h2; exact h2) h3 (fun _ => by omega) w'
     rw [this, hr0, hq0]; rfl
   ·rw [e1] at e3; cases e3
  ·refine ⟨_, .slice (if c = q.val then some (at_ a_ base) else (some (at_ a_ base)).map (·.add (q.val * es))) (r.val - q.val) (c - q.val), h, .inr ⟨h0, rfl, fun blk' hb' hlb => ?_⟩, fun w' _ => run _ _ _ q r e2 h1 h2 h3 (fun _ => by omega) w'⟩
   rw [hm] at hb'; cases hb'
   refine ⟨k1, by rw [nSub_val hI]; omega, fun c' hc' => ?_, .inr ⟨a_, base, c - q.val, if c = q.val then base else base + q.val * es, e1, ?_, fun hlt => if_neg (by omega), by rw [nSub_val hI]; omega, fun c' hc' => ?_, fun j hj => ?_⟩⟩
   ·cases cap with
    | none => cases hc'
    | some c0 => cases hc'; rw [nSub_val hI, k2 c0 rfl]; omega
   ·rw [nSub_val hI]; split <;> simp [at_add]
   ·cases cap with
    | none => cases hc'
    | some c0 => cases hc'; rw [nSub_val hI, e4 c0 rfl]
   ·rw [Nat.add_assoc]
    refine e5 _ ?_
    have : (q.val + (c - q.val)) * es = q.val * es + (c - q.val) * es := Nat.add_mul _ _ _
    rw [show q.val + (c - q.val) = c by omega] at this
    omega
 | sl b o' es' n cap =>
  have key : ∃ (blk : Blk) (q r : NN), m[b]? = some blk ∧ blk.live ∧ es = es' ∧ (zl.map Z.val).getD 0 = (q.val : Int) ∧ (zh.map Z.val).getD n.val = (r.val : Int) ∧ q.val ≤ r.val ∧ (r.val ≤ n.val ∨ ∃ c0 : NN, zh ≠ none ∧ cap = some c0 ∧ r.val ≤ c0.val) ∧
    Holds P I p (k (.one (.c (.sl b (nAdd I o' q) es (nSub I r q) (cap.map fun c => nSub I c q)))) m) := by
   simp only at h
   split at h
   ·exact (holds_fail h).elim
   ·rename_i blk hd he hm
    obtain ⟨q, r, h1, h2, h3, h4, hk⟩ := zRng_inv h
    clear h
    have hlv : blk.live := by cases blk <;> first | trivial | exact absurd rfl hd
    have he : es = es' := by simpa using he
    cases hi with
    | none =>
     have hz0 : zh = none := hn.1 rfl
     subst hz0
     exact ⟨blk, q, r, hm, hlv, he, h1, h2, h3, .inl h4, hk⟩
    | some hi0 =>
     have hz0 : zh ≠ none := fun e => by have := hn.2 e; cases this
     have h2' : (zh.map Z.val).getD n.val = (r.val : Int) := by
      cases zh with
      | none => exact absurd rfl hz0
      | some y => exact h2
     cases cap with
     | none => exact ⟨blk, q, r, hm, hlv, he, h1, h2', h3, .inl h4, hk⟩
     | some c0 => exact ⟨blk, q, r, hm, hlv, he, h1, h2', h3, .inr ⟨c0, hz0, rfl, h4⟩, hk⟩
   ·exact (holds_fail h).elim
  obtain ⟨blk, q, r, hm, hl', rfl, h1, h2, h3, h4, h⟩ := key
  rcases hc with hc | ⟨h0, ho', hc⟩
  ·cases hc
  obtain ⟨k1, k2, k3, k4⟩ := hc blk hm hl'
  rcases k4 with ⟨e1, e2, e0⟩ | ⟨a_, base, c, off, e1, e2, e3, e4, e5, e6⟩
  ·rcases hA.sat.rep b blk hm hl' with ⟨_, e3⟩ | ⟨a', base', e3, _⟩
   ·have hz0 : blk.rows.length = 0 := by rw [e3]; rfl
    have hr0 : r.val = 0 := by
     rcases h4 with h4 | ⟨c0, _, hc0, h4⟩
     ·omega
     ·have := k3 c0 hc0; omega
    have hq0 : q.val = 0 := by omega
    refine ⟨_, .slice none 0 0, h, .inr ⟨h0, rfl, fun blk' hb' hlb => ?_⟩, fun w' _ => ?_⟩
    ·rw [hm] at hb'; cases hb'
     refine ⟨k1, by rw [nSub_val hI, nAdd_val hI]; omega, fun c' hc' => ?_, .inl ⟨e1, rfl, by rw [nSub_val hI]; omega⟩⟩
     cases cap with
     | none => cases hc'
     | some c0 => cases hc'; have := k3 c0 rfl; rw [nSub_val hI, nAdd_val hI]; omega
    ·have := run none 0 0 q r e2 h1 (by rw [e0] at h2; exact h2) h3 (fun _ => by omega) w'
     rw [this, hr0, hq0]; rfl
   ·rw [e1] at e3; cases e3
  ·have hrc : r.val ≤ c := by
    rcases h4 with h4 | ⟨c0, _, hc0, h4⟩
    ·omega
    ·rw [e5 c0 hc0]; exact h4
   have hrl : o'.val + r.val ≤ blk.rows.length := by
    rcases h4 with h4 | ⟨c0, _, hc0, h4⟩
    ·omega
    ·have := k3 c0 hc0; omega
   refine ⟨_, .slice (if c = q.val then some (at_ a_ off) else (some (at_ a_ off)).map (·.add (q.val * es))) (r.val - q.val) (c - q.val), h, .inr ⟨h0, rfl, fun blk' hb' hlb => ?_⟩, fun w' _ => run _ _ _ q r e2 h1 h2 h3 (fun _ => hrc) w'⟩
   rw [hm] at hb'; cases hb'
   refine ⟨k1, by rw [nSub_val hI, nAdd_val hI]; omega, fun c' hc' => ?_, .inr ⟨a_, base, c - q.val, if c = q.val then off else off + q.val * es, e1, ?_, fun hlt => ?_, by rw [nSub_val hI]; omega, fun c' hc' => ?_, fun j hj => ?_⟩⟩
   ·cases cap with
    | none => cases hc'
    | some c0 => cases hc'; have := k3 c0 rfl; have := e5 c0 rfl; rw [nSub_val hI, nAdd_val hI]; omega
   ·rw [nSub_val hI]; split <;> simp [at_add]
   ·rw [if_neg (by omega), e3 (by omega), nAdd_val hI, Nat.add_mul]; omega
   ·cases cap with
    | none => cases hc'
    | some c0 => cases hc'; rw [nSub_val hI, e5 c0 rfl]
   ·rw [nAdd_val hI, Nat.add_mul, Nat.add_assoc, Nat.add_assoc, ← Nat.add_assoc base]
    refine e6 _ ?_
    have : (q.val + (c - q.val)) * es = q.val * es + (c - q.val) * es := Nat.add_mul _ _ _
    rw [show q.val + (c - q.val) = c by omega] at this
    omega
 | _ => exact (holds_fail h).elim
theorem bAnd_val (hI : I = ints) (x y : BB) : (bAnd I x y).val = (x.val && y.val) := by
 subst hI
 rcases x with (_ | _) | x <;> rcases y with (_ | _) | y <;> simp [bAnd, ints]
theorem bEq_val (hI : I = ints) (x y : BB) : (bEq I x y).val = (x.val == y.val) := by
 subst hI
 cases x <;> cases y <;> rfl
theorem eqCells_nil {l r : List C} {b : BB} (h : eqCells I [] l r = some b) : l = [] ∧ r = [] ∧ b = .lit true := by
 cases l with
 | cons c l => simp [eqCells] at h
 | nil =>
  cases r with
  | cons c r => simp [eqCells] at h
  | nil => simp [eqCells] at h; exact ⟨rfl, rfl, h.symm⟩
theorem eqCells_num {ks : List Bool} {l r : List C} {b : BB} (h : eqCells I (false :: ks) l r = some b) : ∃ i x y l' r' b', l = .g (.int i x) :: l' ∧ r = .g (.int i y) :: r' ∧ eqCells I ks l' r' = some b' ∧ b = bAnd I (zCmp I .eql x y) b' := by
 cases l with
 | nil => simp [eqCells] at h
 | cons c l =>
  cases c with
  | g x =>
   cases x with
   | int i x =>
    cases r with
    | nil => simp [eqCells] at h
    | cons c' r =>
     cases c' with
     | g y =>
      cases y with
      | int j y =>
       simp only [eqCells] at h
       split at h
       ·rename_i b' hij hb'
        cases h
        obtain rfl := of_decide_eq_true hij
        exact ⟨i, x, y, l, r, b', rfl, rfl, hb', rfl⟩
       ·cases h
      | _ => simp [eqCells] at h
     | _ => simp [eqCells] at h
   | _ => simp [eqCells] at h
  | _ => simp [eqCells] at h
theorem eqCells_bool {ks : List Bool} {l r : List C} {b : BB} (h : eqCells I (true :: ks) l r = some b) : ∃ x y l' r' b', l = .g (.bool x) :: l' ∧ r = .g (.bool y) :: r' ∧ eqCells I ks l' r' = some b' ∧ b = bAnd I (bEq I x y) b' := by
 cases l with
 | nil => simp [eqCells] at h
 | cons c l =>
  cases c with
  | g x =>
   cases x with
   | bool x =>
    cases r with
    | nil => simp [eqCells] at h
    | cons c' r =>
     cases c' with
     | g y =>
      cases y with
      | bool y =>
       simp only [eqCells] at h
       split at h
       ·rename_i b' hb'
        cases h
        exact ⟨x, y, l, r, b', rfl, rfl, hb', rfl⟩
       ·cases h
      | _ => simp [eqCells] at h
     | _ => simp [eqCells] at h
   | _ => simp [eqCells] at h
  | _ => simp [eqCells] at h
theorem eqField_fin {f : Field} {fs : List Field} {n d : Nat} {xs ys : Array Value} {u v : Value} {q s : Bool} {w' : World} (hu : xs[n]? = some u) (hv : ys[n]? = some v) (hn : (f.name == "_") = false) (ho : f.offset = n) (hag : agOf P f.type = some none)
  (heq : (Op.equalIn d f.type u v).run P w' = .ok q w') (next : (Op.eqFields d xs ys fs).run P w' = .ok s w') : (Op.eqFields d xs ys (f :: fs)).run P w' = .ok (q && s) w' := by
 have hn' : f.name ≠ "_" := by simpa using hn
 have ha : (part f.type xs f.offset).run P w' = .ok u w' := by simp [part, Sem.run_bind, ag_none hag, ho, hu]
 have hb : (part f.type ys f.offset).run P w' = .ok v w' := by simp [part, Sem.run_bind, ag_none hag, ho, hv]
 rw [Op.eqFields]
 simp only [if_pos hn', Sem.run_bind, ha, hb, heq, Result.andThen_ok]
 cases q
 ·simp
 ·simpa using next
theorem eqFields_run (hI : I = ints) {xs ys : Array Value} {d : Nat} (w' : World) : ∀ (fs : List Field) (n : Nat) (ks : List Bool) (l r : List C) (b : BB), flat P fs n = some ks → eqCells I ks l r = some b →
  (∀ (i : Nat) (x : C), l[i]? = some x → ∃ u, xs[n + i]? = some u ∧ CRep E m w x u) → (∀ (i : Nat) (x : C), r[i]? = some x → ∃ u, ys[n + i]? = some u ∧ CRep E m w x u) →
  (Op.eqFields (d + 1) xs ys fs).run P w' = .ok b.val w'
 | [], n, ks, l, r, b, hf, he, hx, hy => by
  cases hf
  obtain ⟨rfl, rfl, rfl⟩ := eqCells_nil he
  simp [Op.eqFields]
 | f :: fs, n, ks, l, r, b, hf, he, hx, hy => by
  unfold flat at hf
  split at hf
  ·rename_i kd h1 h2 h3
   have ho : f.offset = n := by simpa using h2
   have hag : agOf P f.type = some none := by unfold agOf; rw [h1]
   split at hf
   ·rename_i ks' hks
    cases hf
    obtain ⟨i, x, y, l', r', b', rfl, rfl, hb', rfl⟩ := eqCells_num he
    obtain ⟨u, hu, hcu⟩ := hx 0 _ rfl
    obtain ⟨v, hv, hcv⟩ := hy 0 _ rfl
    cases hcu
    cases hcv
    rw [bAnd_val hI, zCmp_val hI]
    refine eqField_fin hu hv h3 ho hag (by simp [Op.equalIn, run_underlying h1, rCmp]) (eqFields_run hI w' fs (n + 1) ks' l' r' b' hks hb' (fun i x hi => ?_) (fun i x hi => ?_))
    ·obtain ⟨u, h3, h4⟩ := hx (i + 1) x (by simpa using hi)
     exact ⟨u, by rw [← h3]; congr 1; omega, h4⟩
    ·obtain ⟨u, h3, h4⟩ := hy (i + 1) x (by simpa using hi)
     exact ⟨u, by rw [← h3]; congr 1; omega, h4⟩
   ·cases hf
  ·rename_i h1 h2 h3
   have ho : f.offset = n := by simpa using h2
   have hag : agOf P f.type = some none := by unfold agOf; rw [h1]
   split at hf
   ·rename_i ks' hks
    cases hf
    obtain ⟨x, y, l', r', b', rfl, rfl, hb', rfl⟩ := eqCells_bool he
    obtain ⟨u, hu, hcu⟩ := hx 0 _ rfl
    obtain ⟨v, hv, hcv⟩ := hy 0 _ rfl
    cases hcu
    cases hcv
    rw [bAnd_val hI, bEq_val hI]
    refine eqField_fin hu hv h3 ho hag (by simp [Op.equalIn, run_underlying h1]) (eqFields_run hI w' fs (n + 1) ks' l' r' b' hks hb' (fun i x hi => ?_) (fun i x hi => ?_))
    ·obtain ⟨u, h3, h4⟩ := hx (i + 1) x (by simpa using hi)
     exact ⟨u, by rw [← h3]; congr 1; omega, h4⟩
    ·obtain ⟨u, h3, h4⟩ := hy (i + 1) x (by simpa using hi)
     exact ⟨u, by rw [← h3]; congr 1; omega, h4⟩
   ·cases hf
  ·cases hf
end
end Go.Proofs.Ytofdnnjkfpomcaa.E

/- Quiet operations: comparisons, structs that are built; all of them in one. -/
namespace Go.Proofs.Ytofdnnjkfpomcaa.E
open Go
set_option linter.unusedVariables false

section
variable {P : Program} {I : Ints} {p : Nat} {E : Env} {m : Mem} {w : World} {ts : List A} {a : Act}
variable {wr : Option (List Nat × Nat)} {er : Bool} {o : Oper} {k : A → Mem → Tree}
theorem eqV_bool {x y : V1} {b : BB} (h : eqV I .bool x y = some b) : ∃ c d, x = .c (.g (.bool c)) ∧ y = .c (.g (.bool d)) ∧ b = bEq I c d := by
 unfold eqV at h
 split at h
 all_goals first | (cases h; exact ⟨_, _, rfl, rfl, rfl⟩) | (simp_all; done)
theorem eqV_ptr {x y : V1} {b : BB} (h : eqV I .ptr x y = some b) : (x = .c (.g .nilp) ∧ y = .c (.g .nilp) ∧ b = .lit true) ∨ (∃ b' i es j, x = .c (.ptr b' i es j) ∧ y = .c (.g .nilp) ∧ b = .lit false) ∨ ∃ b' i es j, x = .c (.g .nilp) ∧ y = .c (.ptr b' i es j) ∧ b = .lit false := by
 unfold eqV at h
 split at h
 all_goals first | (cases h; exact .inl ⟨rfl, rfl, rfl⟩) | (cases h; exact .inr (.inl ⟨_, _, _, _, rfl, rfl, rfl⟩)) | (cases h; exact .inr (.inr ⟨_, _, _, _, rfl, rfl, rfl⟩)) | (simp_all; done)
theorem eqV_agg {x y : V1} {b : BB} {ks : List Bool} (h : eqV I (.agg ks) x y = some b) : ∃ l r, x = .agg l ∧ y = .agg r ∧ eqCells I ks l r = some b := by
 unfold eqV at h
 split at h
 all_goals first | (rename_i e _ _; cases e; exact ⟨_, _, rfl, rfl, h⟩) | (simp_all; done)
theorem eqV_str {x y : V1} {b : BB} (h : eqV I .str x y = some b) : ∃ c d, x = .c (.g (.str c)) ∧ y = .c (.g (.str d)) ∧ b = .sym (I.seq c d) := by
 unfold eqV at h
 split at h
 all_goals first | (cases h; exact ⟨_, _, rfl, rfl, rfl⟩) | (simp_all; done)
def EqOk (P : Program) (t : TypeId) (kd : EqK) : Prop :=
 (kd = .bool ∧ P.underlying t = some .bool) ∨ (kd = .ptr ∧ ∃ e, P.underlying t = some (.pointer e)) ∨ (kd = .str ∧ P.underlying t = some .string) ∨ ∃ fs ks, kd = .agg ks ∧ P.underlying t = some (.struct fs) ∧ flat P fs.toList 0 = some ks ∧ P.eqGuardType P.depth t = false ∧ P.stoodInHeld t = false
theorem eqV_run (hI : I = ints) {t : TypeId} {kd : EqK} {x y : V1} {b : BB} {u v : Value} (h : eqV I kd x y = some b) (hx : V1Rep E m w x u) (hy : V1Rep E m w y v) (hk : EqOk P t kd) (X Y : Operand) (w' : World) :
  (eqGuard .eql t X Y u v).run P w' = .ok () w' ∧ (eqGuard .neq t X Y u v).run P w' = .ok () w' ∧ (binOp .eql t u v).run P w' = .ok (.bool b.val) w' ∧ (binOp .neq t u v).run P w' = .ok (.bool !b.val) w' := by
 obtain ⟨d, hd⟩ : ∃ d, Op.maxDepth = d + 1 + 1 := ⟨9998, rfl⟩
 rcases hk with ⟨rfl, ht⟩ | ⟨rfl, e, ht⟩ | ⟨rfl, ht⟩ | ⟨fs, ks, rfl, ht, hf, hg, hp⟩
 ·obtain ⟨c, e, rfl, rfl, rfl⟩ := eqV_bool h
  rcases hx with hx | hx <;> cases hx
  rcases hy with hy | hy <;> cases hy
  rw [bEq_val hI]
  have : (Op.equal t (.bool c.val) (.bool e.val)).run P w' = .ok (c.val == e.val) w' := by unfold Op.equal; rw [hd]; simp [Op.equalIn, run_underlying ht]
  refine ⟨rfl, rfl, ?_, ?_⟩ <;> simp [binOp, this]
 ·rcases eqV_ptr h with ⟨rfl, rfl, rfl⟩ | ⟨b', i, es, j, rfl, rfl, rfl⟩ | ⟨b', i, es, j, rfl, rfl, rfl⟩
  ·rcases hx with hx | hx <;> cases hx
   rcases hy with hy | hy <;> cases hy
   have : (Op.equal t (.pointer none) (.pointer none)).run P w' = .ok true w' := by unfold Op.equal; rw [hd]; simp [Op.equalIn, run_underlying ht]
   refine ⟨rfl, rfl, ?_, ?_⟩ <;> simp [binOp, this]
  ·rcases hx with hx | hx
   ·cases hx
   rcases hy with hy | hy <;> cases hy
   obtain ⟨_, a_, base, _, rfl⟩ := hx
   have : (Op.equal t (.pointer (some (at_ a_ (base + (i.val * es + j))))) (.pointer none)).run P w' = .ok false w' := by unfold Op.equal; rw [hd]; simp [Op.equalIn, run_underlying ht]
   refine ⟨rfl, rfl, ?_, ?_⟩ <;> simp [binOp, this]
  ·rcases hx with hx | hx <;> cases hx
   rcases hy with hy | hy
   ·cases hy
   obtain ⟨_, a_, base, _, rfl⟩ := hy
   have : (Op.equal t (.pointer none) (.pointer (some (at_ a_ (base + (i.val * es + j)))))).run P w' = .ok false w' := by unfold Op.equal; rw [hd]; simp [Op.equalIn, run_underlying ht]
   refine ⟨rfl, rfl, ?_, ?_⟩ <;> simp [binOp, this]
 ·obtain ⟨c, e, rfl, rfl, rfl⟩ := eqV_str h
  rcases hx with hx | hx <;> cases hx
  rcases hy with hy | hy <;> cases hy
  have hb : (BB.sym (I.seq c e)).val = (c.toList == e.toList) := by rw [hI]; rfl
  rw [hb]
  exact ⟨rfl, rfl, by simp [binOp, Op.stringOp], by simp [binOp, Op.stringOp]⟩
 ·obtain ⟨l, r, rfl, rfl, h⟩ := eqV_agg h
  obtain ⟨xs, rfl, _, hx⟩ := hx
  obtain ⟨ys, rfl, _, hy⟩ := hy
  have hfs : P.fieldsOf t = fs := by simp [Program.fieldsOf, ht]
  have : (Op.equal t (.agg xs) (.agg ys)).run P w' = .ok b.val w' := by
   unfold Op.equal
   rw [hd, run_equalIn_struct (P := P) w' (d + 1) t xs ys (by rw [hfs]; exact ht) hp, hfs]
   exact eqFields_run (E := E) (m := m) (w := w) hI w' fs.toList 0 ks l r b hf h (fun i x hi => by simpa using hx i x hi) (fun i x hi => by simpa using hy i x hi)
  refine ⟨run_eqGuard_agg (w := w') .eql t X Y xs ys hg, run_eqGuard_agg (w := w') .neq t X Y xs ys hg, ?_, ?_⟩ <;> simp [binOp, this]
theorem q_eq {t u : TypeId} {X Y : Operand} {x y : Opd} {ng : Bool} {kd : EqK} (hI : I = ints) (hop : o.op = .binOp (match ng with | true => .neq | false => .eql) t X Y u) (hk : EqOk P t kd) (ho : opd X = some x) (ho' : opd Y = some y) (hA : At E m w ts a) (h : Holds P I p (evOp I er wr (.eq ng kd x y) ts m k)) : QRes P I p E m w wr er a o k := by
 obtain ⟨c, hc, h⟩ := ev1_inv ho hA h
 obtain ⟨d, hd, h⟩ := ev1_inv ho' hA h
 split at h
 ·rename_i r hr
  cases ng
  ·refine ⟨_, _, h, bool_rep _, fun w' _ => ?_⟩
   obtain ⟨h1, h2, h3, h4⟩ := eqV_run hI hr hc hd hk X Y w'
   simp [execOp, hop, h1, h3]
  ·refine ⟨_, _, h, bool_rep _, fun w' _ => ?_⟩
   obtain ⟨h1, h2, h3, h4⟩ := eqV_run hI hr hc hd hk X Y w'
   rw [bNot_val hI]
   simp [execOp, hop, h2, h4]
 ·exact (holds_fail h).elim

theorem slice_equal {t e : TypeId} (ht : P.underlying t = some (.slice e)) (A_ : Option Addr) (n c : Nat) (w' : World) : (Op.equal t (.slice A_ n c) (.slice none 0 0)).run P w' = .ok A_.isNone w' := by
 obtain ⟨d, hd⟩ : ∃ d, Op.maxDepth = d + 1 + 1 := ⟨9998, rfl⟩
 unfold Op.equal
 rw [hd]
 cases A_ <;> simp [Op.equalIn, run_underlying ht]
theorem q_isNil {t u e : TypeId} {X Y : Operand} {x : Opd} {ng : Bool} (hop : o.op = .binOp (match ng with | true => .neq | false => .eql) t X Y u) (ht : P.underlying t = some (.slice e)) (ho : opd X = some x) (ho' : opd Y = some (.cst (.g .nil))) (hA : At E m w ts a) (h : Holds P I p (evOp I er wr (.isNil ng x) ts m k)) : QRes P I p E m w wr er a o k := by
 obtain ⟨c, hc, h⟩ := evC_inv ho hA h
 have hy : a.eval Y = .slice none 0 0 := by
  have := opd_rep ho' hA
  generalize a.eval Y = vY at this
  rcases this with h | h <;> cases h
  rfl
 have fin : ∀ (A_ : Option Addr) (n q : Nat) (b : Bool), a.eval X = .slice A_ n q → A_.isNone = b → Holds P I p (k (.one (.c (.g (.bool (.lit (b != ng)))))) m) → QRes P I p E m w wr er a o k := by
  intro A_ n q b hx hb hk
  refine ⟨_, _, hk, bool_rep _, fun w' _ => ?_⟩
  have h1 : ∀ w', (binOp .eql t (.slice A_ n q) (.slice none 0 0)).run P w' = .ok (.bool b) w' := fun w' => by simp [binOp, slice_equal ht A_ n q, hb]
  have h2 : ∀ w', (binOp .neq t (.slice A_ n q) (.slice none 0 0)).run P w' = .ok (.bool !b) w' := fun w' => by simp [binOp, slice_equal ht A_ n q, hb]
  have g1 : ∀ w', (eqGuard .eql t X Y (.slice A_ n q) (.slice none 0 0)).run P w' = .ok () w' := fun _ => rfl
  have g2 : ∀ w', (eqGuard .neq t X Y (.slice A_ n q) (.slice none 0 0)).run P w' = .ok () w' := fun _ => rfl
  cases ng
  ·simp [execOp, hop, hx, hy, g1, h1, BB.val]
  ·simp [execOp, hop, hx, hy, g2, h2, BB.val]
 have row : ∀ (l : List (List G)) (es : Nat) (A_ : Option Addr) (q : Nat) (T : Nat → Prop) (f : Nat → Nat → Value), a.eval X = .slice A_ l.length q → RowAt w T es l A_ f → Holds P I p (.isnil l (fun _ => k (.one (.c (.g (.bool (.lit (!ng)))))) m) (fun _ => k (.one (.c (.g (.bool (.lit ng))))) m)) → QRes P I p E m w wr er a o k := by
  intro l es A_ q T f hx hr h
  cases h with
  | isnil h1 h2 =>
  cases hA_ : A_ with
  | none =>
   have : l = [] := by
    cases l with
    | nil => rfl
    | cons r l =>
     obtain ⟨a_, off, e, _⟩ := hr.some_ (by simp)
     rw [hA_] at e
     cases e
   exact fin A_ _ q true hx (by rw [hA_]; rfl) (by cases ng <;> exact h1 this)
  | some y => exact fin A_ _ q false hx (by rw [hA_]; rfl) (by cases ng <;> exact h2)
 split at h
 ·rcases hc with hc | hc
  ·cases hc
  ·generalize hX : a.eval X = vX at hc
   cases hc
   exact fin none 0 0 true hX rfl (by cases ng <;> exact h)
 ·rcases hc with hc | hc
  ·cases hc
  ·generalize hX : a.eval X = vX at hc
   cases hc with
   | rows u hc hr hg =>
    exact row _ _ _ _ _ _ hX hr h
 ·rcases hc with hc | ⟨A_, q, f, hX, _, hr, _⟩
  ·cases hc
  ·skip
   exact row _ _ _ _ _ _ hX hr h
 ·exact (holds_fail h).elim
/-! ### Structs and arrays that are built -/
/-- Cells that are these ones, one by one. -/
def CellsRep (E : Env) (m : Mem) (w : World) (l : List C) (cs : Array Value) : Prop := cs.size = l.length ∧ ∀ (i : Nat) (x : C), l[i]? = some x → ∃ u, cs[i]? = some u ∧ CRep E m w x u
theorem CellsRep.set {l : List C} {cs : Array Value} (h : CellsRep E m w l cs) {c : C} {u : Value} (hc : CRep E m w c u) (j : Nat) : CellsRep E m w (l.set j c) (cs.setIfInBounds j u) := by
 refine ⟨by simpa using h.1, fun i x hi => ?_⟩
 rw [List.getElem?_set] at hi
 by_cases hj : j = i
 ·subst hj
  by_cases hl : j < l.length
  ·simp only [hl, if_true, Option.some.injEq] at hi
   subst hi
   have : j < cs.size := by rw [h.1]; exact hl
   exact ⟨u, by simp [this], hc⟩
  ·simp [hl] at hi
 ·simp only [hj, if_false] at hi
  obtain ⟨v, h1, h2⟩ := h.2 i x hi
  exact ⟨v, by rw [Array.getElem?_setIfInBounds_ne hj]; exact h1, h2⟩
theorem fold_setSeg {l : List C} {cs : Array Value} : ∀ (vs : List C) (us : List Value) (j : Nat) (l : List C) (cs : Array Value), CellsRep E m w l cs → us.length = vs.length → (∀ (i : Nat) (x : C), vs[i]? = some x → ∃ u, us[i]? = some u ∧ CRep E m w x u) → ∀ off n, j = off + n →
  CellsRep E m w (setSeg l j vs) ((us.zipIdx n).foldl (fun cs (c, i) => cs.setIfInBounds (off + i) c) cs)
 | [], us, j, l, cs, h, hl, hv, off, n, hj => by
  obtain rfl : us = [] := List.eq_nil_of_length_eq_zero (by simpa using hl)
  exact h
 | x :: vs, us, j, l, cs, h, hl, hv, off, n, hj => by
  cases us with
  | nil => simp at hl
  | cons u us =>
   obtain ⟨u', h1, h2⟩ := hv 0 x rfl
   simp at h1
   subst h1
   subst hj
   simp only [setSeg, List.zipIdx_cons, List.foldl_cons]
   exact fold_setSeg (l := l) (cs := cs) vs us _ _ _ (h.set h2 _) (by simpa using hl) (fun i x hi => by simpa using hv (i + 1) x (by simpa using hi)) off (n + 1) (by omega)
/-- A value's cells. -/
theorem cells_rep {v : V1} {u : Value} (h : V1Rep E m w v u) (hn : v ≠ .c .any) : CellsRep E m w v.cells u.cells ∧ (∀ q ∈ u.cells.toList, q.oneCell' = true) := by
 cases v with
 | c x =>
  rcases h with h | h
  ·exact absurd (by rw [h]) hn
  ·have h1 := h.one
   have hcs : u.cells = #[u] := by cases u <;> first | rfl | simp [Value.oneCell'] at h1
   rw [hcs]
   refine ⟨⟨rfl, fun i y hi => ?_⟩, by simpa using h1⟩
   cases i with
   | zero => simp [V1.cells] at hi; subst hi; exact ⟨u, rfl, h⟩
   | succ i => simp [V1.cells] at hi
 | agg l =>
  obtain ⟨cs, rfl, h1, h2⟩ := h
  refine ⟨⟨h1, h2⟩, fun q hq => ?_⟩
  obtain ⟨i, hi⟩ := List.mem_iff_getElem?.1 hq
  have hi' : cs[i]? = some q := by simpa [Value.cells] using hi
  obtain ⟨hlt, -⟩ := Array.getElem?_eq_some_iff.1 hi'
  obtain ⟨x, hx⟩ : ∃ x, l[i]? = some x := ⟨l[i]'(by omega), List.getElem?_eq_getElem _⟩
  obtain ⟨u, h3, h4⟩ := h2 i x hx
  rw [hi'] at h3
  cases h3
  exact h4.one
theorem zero_rep {t : TypeId} {z : List C} (h : zero P t = some z) (E : Env) (m : Mem) (w : World) : ∃ i v, P.info? t = some i ∧ i.zero = some v ∧ v.cells.size = i.size ∧ CellsRep E m w z v.cells ∧ (∀ q ∈ v.cells.toList, q.oneCell' = true) := by
 unfold zero at h
 split at h
 ·rename_i i hi
  split at h
  ·rename_i v hv
   split at h
   ·rename_i hs
    have key : ∀ (l : List Value) (z : List C), csts l = some z → l.length = z.length ∧ ∀ (i : Nat) (x : C), z[i]? = some x → ∃ u, l[i]? = some u ∧ CRep E m w x u := by
     intro l
     induction l with
     | nil => intro z hz; cases hz; exact ⟨rfl, fun i x hi => by simp at hi⟩
     | cons v l ih =>
      intro z hz
      simp only [csts] at hz
      split at hz
      ·rename_i x l' hx hl
       cases hz
       obtain ⟨h1, h2⟩ := ih l' hl
       refine ⟨by simp [h1], fun i y hi => ?_⟩
       cases i with
       | zero => simp at hi; subst hi; exact ⟨v, rfl, zcst_rep hx E m w⟩
       | succ i => simpa using h2 i y (by simpa using hi)
      ·cases hz
    obtain ⟨h1, h2⟩ := key _ _ h
    have hcr : CellsRep E m w z v.cells := ⟨by simpa using h1, fun i x hi => by simpa using h2 i x hi⟩
    refine ⟨i, v, hi, hv, by simpa using hs, hcr, fun q hq => ?_⟩
    obtain ⟨j, hj⟩ := List.mem_iff_getElem?.1 hq
    have hj' : v.cells[j]? = some q := by simpa using hj
    obtain ⟨hlt, -⟩ := Array.getElem?_eq_some_iff.1 hj'
    obtain ⟨x, hx⟩ : ∃ x, z[j]? = some x := ⟨z[j]'(by rw [← hcr.1]; exact hlt), List.getElem?_eq_getElem _⟩
    obtain ⟨u, h3, h4⟩ := hcr.2 j x hx
    rw [hj'] at h3
    cases h3
    exact h4.one
   ·cases h
  ·cases h
 ·cases h
/-- What is put where. -/
inductive Parts (E : Env) (m : Mem) (w : World) (a : Act) (place : Nat → Option (Nat × Nat)) : List (Nat × Operand) → List (Nat × Nat × V1) → Prop where
 | nil : Parts E m w a place [] []
 | cons {i off n : Nat} {X : Operand} {v : V1} {ps : List (Nat × Operand)} {vs : List (Nat × Nat × V1)} (hp : place i = some (off, n)) (hv : V1Rep E m w v (a.eval X)) (hn : v ≠ .c .any) (h : Parts E m w a place ps vs) : Parts E m w a place ((i, X) :: ps) ((off, n, v) :: vs)
theorem fill_places {place : Nat → Option (Nat × Nat)} : ∀ {ps : List (Nat × Operand)} {vs : List (Nat × Nat × V1)} {z cs : List C} {zc : Array Value}, Parts E m w a place ps vs → places z vs = some cs → CellsRep E m w z zc → (∀ q ∈ zc.toList, q.oneCell' = true) →
  ∃ cells, Instr.fill place zc (ps.map fun (i, x) => (i, a.eval x)) = some cells ∧ CellsRep E m w cs cells
 | _, _, z, cs, zc, .nil, h, hz, _ => by cases h; exact ⟨zc, rfl, hz⟩
 | _, _, z, cs, zc, .cons (i := i) (off := off) (n := n) (X := X) (v := v) hp hv hn hP, h, hz, h1 => by
  simp only [places] at h
  split at h
  ·rename_i e1 e2
   have e1 : v.cells.length = n := by simpa using e1
   have e2 := of_decide_eq_true e2
   obtain ⟨c1, c2⟩ := cells_rep hv hn
   have hfs := fold_setSeg (l := z) (cs := zc) v.cells (a.eval X).cells.toList off z zc hz (by simpa using c1.1) (fun i x hi => by simpa using c1.2 i x hi) off 0 (by omega)
   have heq : (a.eval X).cells.zipIdx.foldl (fun cs (c, j) => cs.setIfInBounds (off + j) c) zc = ((a.eval X).cells.toList.zipIdx 0).foldl (fun cs (c, i) => cs.setIfInBounds (off + i) c) zc := by
    rw [← Array.foldl_toList, Array.toList_zipIdx]
   obtain ⟨cells, g1, g2⟩ := fill_places (zc := ((a.eval X).cells.toList.zipIdx 0).foldl (fun cs (c, i) => cs.setIfInBounds (off + i) c) zc) hP h hfs (fun q hq => by
    obtain ⟨j, hj⟩ := List.mem_iff_getElem?.1 hq
    have hj' : (((a.eval X).cells.toList.zipIdx 0).foldl (fun cs (c, i) => cs.setIfInBounds (off + i) c) zc)[j]? = some q := by simpa using hj
    obtain ⟨hlt, -⟩ := Array.getElem?_eq_some_iff.1 hj'
    obtain ⟨x, hx⟩ : ∃ x, (setSeg z off v.cells)[j]? = some x := ⟨(setSeg z off v.cells)[j]'(by rw [← hfs.1]; exact hlt), List.getElem?_eq_getElem _⟩
    obtain ⟨u, h3, h4⟩ := hfs.2 j x hx
    rw [hj'] at h3
    cases h3
    exact h4.one)
   refine ⟨cells, ?_, g2⟩
   simp only [List.map_cons, Instr.fill, hp]
   rw [if_neg (by have q1 : (a.eval X).cells.size = v.cells.length := c1.1; have q2 : zc.size = z.length := hz.1; simp only [Bool.or_eq_true, decide_eq_true_eq]; omega), heq]
   exact g1
  ·cases h
theorem evParts_inv {t : TypeId} {place : Nat → Option (Nat × Nat)} (hpl : ∀ (fs : Array Field) (i : Nat) (f : Field) (n : Nat), P.underlying t = some (.struct fs) → fs[i]? = some f → size? P f.type = some n → place i = some (f.offset, n)) (hpa : ∀ N e i n, P.underlying t = some (.array N e) → size? P e = some n → place i = some (i * n, n)) :
  ∀ {ps : List (Nat × Operand)} {l : List (Nat × Nat × Opd)} {k : List (Nat × Nat × V1) → Tree}, compBuild P t ps = some l → At E m w ts a → Holds P I p (evParts ts l k) → ∃ vs, Parts E m w a place ps vs ∧ Holds P I p (k vs)
 | [], l, k, hc, hA, h => by cases hc; exact ⟨[], .nil, h⟩
 | (i, X) :: ps, l, k, hc, hA, h => by
  simp only [compBuild] at hc
  split at hc
  ·rename_i x l' hx hl
   have fin : ∀ off n, l = (off, n, x) :: l' → place i = some (off, n) → ∃ vs, Parts E m w a place ((i, X) :: ps) vs ∧ Holds P I p (k vs) := by
    rintro off n rfl hp
    obtain ⟨v, h1, h2, h3⟩ := evV_inv hx hA h
    obtain ⟨vs, h4, h5⟩ := evParts_inv hpl hpa hl hA h3
    exact ⟨_, .cons hp h1 h2 h4, h5⟩
   split at hc
   ·rename_i fs hfs
    split at hc
    ·rename_i f hf
     split at hc
     ·rename_i n hn
      cases hc
      exact fin _ _ rfl (hpl fs i f n hfs hf hn)
     ·cases hc
    ·cases hc
   ·rename_i N e he
    split at hc
    ·rename_i n hn
     cases hc
     exact fin _ _ rfl (hpa N e i n he hn)
    ·cases hc
   ·cases hc
  ·cases hc
theorem mapM_places : ∀ (fs : List Field), fs.all (fun f => (size? P f.type).isSome) = true → ∃ pl, fs.mapM (fun f => (P.info? f.type).map fun i => (f.offset, i.size)) = some pl ∧ ∀ (i : Nat) (f : Field) (n : Nat), fs[i]? = some f → size? P f.type = some n → pl[i]? = some (f.offset, n)
 | [], _ => ⟨[], rfl, fun i f n hf => by simp at hf⟩
 | f :: fs, h => by
  simp only [List.all_cons, Bool.and_eq_true] at h
  obtain ⟨pl, h1, h2⟩ := mapM_places fs h.2
  unfold size? at h
  cases hq : P.info? f.type with
  | none => simp [hq] at h
  | some inf =>
   refine ⟨(f.offset, inf.size) :: pl, by simp [List.mapM_cons, hq, h1], fun i g n hg hn => ?_⟩
   cases i with
   | zero =>
    simp at hg
    subst hg
    unfold size? at hn
    simp [hq] at hn
    simp [hn]
   | succ i => simpa using h2 i g n (by simpa using hg) hn
theorem q_build {t : TypeId} {ps : Array (Nat × Operand)} {z : List C} {l : List (Nat × Nat × Opd)} (hop : o.op = .build t ps) (hz : zero P t = some z) (hl : compBuild P t ps.toList = some l) (hsz : sized P t = true) (hA : At E m w ts a) (h : Holds P I p (evOp I er wr (.build z l) ts m k)) : QRes P I p E m w wr er a o k := by
 obtain ⟨it, zv, hi, hzv, hs, hzr, hz1⟩ := zero_rep hz E m w
 have key : ∃ place : Nat → Option (Nat × Nat), (∀ (fs : Array Field) (i : Nat) (f : Field) (n : Nat), P.underlying t = some (.struct fs) → fs[i]? = some f → size? P f.type = some n → place i = some (f.offset, n)) ∧ (∀ N e i n, P.underlying t = some (.array N e) → size? P e = some n → place i = some (i * n, n)) ∧
   ∀ parts cells, Instr.fill place zv.cells parts = some cells → P.built t parts = some cells := by
  unfold sized at hsz
  split at hsz
  ·rename_i fs hfs
   obtain ⟨pl, h1, h2⟩ := mapM_places fs.toList (by simpa using hsz)
   refine ⟨(pl.toArray[·]?), fun fs' i f n hf hi hn => ?_, fun N e i n he => (by rw [hfs] at he; cases he), fun parts cells hf => ?_⟩
   ·rw [hfs] at hf
    cases hf
    simpa using h2 i f n (by simpa using hi) hn
   ·simp only [Program.built, hi, hfs, hzv, h1]
    exact hf
  ·rename_i N e he
   cases hq : P.info? e with
   | none => simp [size?, hq] at hsz
   | some ie =>
    refine ⟨fun i => some (i * ie.size, ie.size), fun fs i f n hf => (by rw [he] at hf; cases hf), fun N' e' i n he' hn => ?_, fun parts cells hf => ?_⟩
    ·rw [he] at he'
     cases he'
     simp [size?, hq] at hn
     simp [hn]
    ·simp only [Program.built, hi, he, hzv, hq]
     exact hf
  ·cases hsz
 obtain ⟨place, hp1, hp2, hb⟩ := key
 obtain ⟨vs, hP, h⟩ := evParts_inv hp1 hp2 hl hA h
 split at h
 ·rename_i cs hcs
  obtain ⟨cells, h1, h2⟩ := fill_places hP hcs hzr hz1
  refine ⟨_, .agg cells, h, ⟨cells, rfl, h2.1, h2.2⟩, fun w' _ => ?_⟩
  have := run_build (P := P) w' t (ps.map fun (i, x) => (i, a.eval x)) cells (by rw [Array.toList_map]; exact hb _ _ h1)
  simp [execOp, hop, this]
 ·exact (holds_fail h).elim
/-- **Quiet operations, all of them.** -/
theorem quiet_sim {x : XOp} (hI : I = ints) (hx : comp1 P o = some x) (hq : x.quiet = true) (hA : At E m w ts a) (her : er = true → wr.isSome = true) (h : Holds P I p (evOp I er wr x ts m k)) : QRes P I p E m w wr er a o k := by
 unfold comp1 at hx
 split at hx
 ·cases hx; cases hq
 ·cases hx; cases hq
 ·split at hx
  ·cases hx; cases hq
  ·cases hx
 ·split at hx
  ·cases hx; cases hq
  ·cases hx
 ·split at hx
  ·cases hx; cases hq
  ·cases hx
 ·split at hx
  ·cases hx; cases hq
  ·cases hx
 ·split at hx
  ·cases hx; cases hq
  ·cases hx
 ·rename_i X hop
  obtain ⟨y, hy, rfl⟩ := Option.map_eq_some_iff.1 hx
  exact q_move (.inl hop) hy hA h
 ·rename_i X hop
  obtain ⟨y, hy, rfl⟩ := Option.map_eq_some_iff.1 hx
  exact q_move (.inr hop) hy hA h
 ·rename_i C_ X Y hop
  split at hx
  ·rename_i h1 h2 h3
   cases hx
   exact q_pick hop h1 h2 h3 hA h
  ·cases hx
 ·obtain ⟨y, hy, rfl⟩ := Option.map_eq_some_iff.1 hx
  cases hq
 ·obtain ⟨y, hy, rfl⟩ := Option.map_eq_some_iff.1 hx
  cases hq
 ·rename_i t ps hop
  split at hx
  ·rename_i h1 h2 h3
   cases hx
   exact q_build hop h1 h2 h3 hA h
  ·cases hx
 ·split at hx
  ·split at hx
   ·split at hx
    ·cases hx; cases hq
    ·cases hx
   ·cases hx
  ·cases hx
 ·rename_i t X hop
  split at hx
  ·rename_i h1 h2
   cases hx
   exact q_load hop h1 h2 hA her h
  ·cases hx
 ·split at hx
  ·cases hx; cases hq
  ·cases hx
 ·rename_i X hop
  obtain ⟨y, hy, rfl⟩ := Option.map_eq_some_iff.1 hx
  exact q_nilCheck hop hy hA h
 ·rename_i op t X Y u hop
  split at hx
  ·rename_i x1 y1 h1 h2
   unfold compBin at hx
   split at hx
   ·split at hx
    ·rename_i ha
     cases hx
     exact q_bin hI hop ha h1 h2 hA h
    ·rename_i ha _
     cases hx
     exact q_div hI hop ha h1 h2 hA h
    ·rename_i ha _ _
     cases hx
     exact q_shift hI hop ha h1 h2 hA h
    ·rename_i ha _ _ _
     cases hx
     exact q_cmp hI hop ha h1 h2 hA h
    ·cases hx
   ·rename_i ht
    split at hx
    ·cases hx; exact q_eq (ng := false) hI hop (.inl ⟨rfl, ht⟩) h1 h2 hA h
    ·cases hx; exact q_eq (ng := true) hI hop (.inl ⟨rfl, ht⟩) h1 h2 hA h
    ·cases hx
   ·rename_i e ht
    split at hx
    ·cases hx; exact q_eq (ng := false) hI hop (.inr (.inl ⟨rfl, e, ht⟩)) h1 h2 hA h
    ·cases hx; exact q_eq (ng := true) hI hop (.inr (.inl ⟨rfl, e, ht⟩)) h1 h2 hA h
    ·cases hx
   ·rename_i ht
    split at hx
    ·cases hx; exact q_eq (ng := false) hI hop (.inr (.inr (.inl ⟨rfl, ht⟩))) h1 h2 hA h
    ·cases hx; exact q_eq (ng := true) hI hop (.inr (.inr (.inl ⟨rfl, ht⟩))) h1 h2 hA h
    ·cases hx
   ·rename_i e ht
    split at hx
    ·cases hx; exact q_isNil (ng := false) hop ht h1 h2 hA h
    ·cases hx; exact q_isNil (ng := true) hop ht h1 h2 hA h
    ·cases hx
   ·rename_i fs ht
    split at hx
    ·rename_i ks hf hg hp
     split at hx
     ·cases hx; exact q_eq (ng := false) hI hop (.inr (.inr (.inr ⟨fs, ks, rfl, ht, hf, hg, hp⟩))) h1 h2 hA h
     ·cases hx; exact q_eq (ng := true) hI hop (.inr (.inr (.inr ⟨fs, ks, rfl, ht, hf, hg, hp⟩))) h1 h2 hA h
     ·cases hx
    ·cases hx
   ·cases hx
  ·cases hx
 ·rename_i op t X hop
  split at hx
  ·obtain ⟨y, hy, rfl⟩ := Option.map_eq_some_iff.1 hx
   exact q_not hI hop hy hA h
  ·obtain ⟨y, hy, rfl⟩ := Option.map_eq_some_iff.1 hx
   exact q_neg hI hop hy hA h
  ·obtain ⟨y, hy, rfl⟩ := Option.map_eq_some_iff.1 hx
   exact q_cpl hI hop hy hA h
  ·cases hx
 ·rename_i s d X hop
  split at hx
  ·rename_i h1 h2
   obtain ⟨y, hy, rfl⟩ := Option.map_eq_some_iff.1 hx
   exact q_conv hI hop h1 h2 hy hA h
  ·split at hx
   ·obtain ⟨y, hy, rfl⟩ := Option.map_eq_some_iff.1 hx
    cases hq
   ·cases hx
  ·split at hx
   ·cases hx; cases hq
   ·cases hx
  ·cases hx
 ·rename_i s X f hop
  split at hx
  ·rename_i fs hs
   split at hx
   ·rename_i fd y hf hy
    split at hx
    ·rename_i n hn
     split at hx
     ·rename_i hz
      cases hx
      exact q_fieldAddr hop hs hf hn (by simpa using hz) hy hA h
     ·cases hx
    ·cases hx
   ·cases hx
  ·cases hx
 ·rename_i s X f hop
  split at hx
  ·rename_i fs hs
   split at hx
   ·rename_i fd y hf hy
    split at hx
    ·rename_i ag hag
     cases hx
     exact q_field hop hs hf hag hy hA h
    ·cases hx
   ·cases hx
  ·cases hx
 ·rename_i t X Y hop
  split at hx
  ·rename_i h1 h2 h3
   obtain ⟨es, hes, rfl⟩ := Option.map_eq_some_iff.1 hx
   exact q_indexArr hop h1 hes h2 h3 hA h
  ·rename_i h1 h2 h3
   obtain ⟨es, hes, rfl⟩ := Option.map_eq_some_iff.1 hx
   exact q_indexRow hI hop h1 hes h2 h3 hA h
  ·cases hx
 ·rename_i t X Y hop
  split at hx
  ·rename_i h1 h2 h3
   split at hx
   ·rename_i h4 h5
    cases hx
    exact q_index hop h1 h4 h5 h2 h3 hA h
   ·cases hx
  ·cases hx
 ·rename_i t X lo hi hop
  split at hx
  ·rename_i h1
   split at hx
   ·rename_i h2 h3 h4 h5
    cases hx
    exact q_slice hI hop h1 h2 h3 h4 h5 hA h
   ·cases hx
  ·cases hx
 ·exfalso
  split at hx
  ·split at hx
   ·split at hx
    all_goals first | (split at hx <;> cases hx <;> cases hq) | (cases hx; cases hq) | cases hx
   ·cases hx
  ·cases hx
 ·rename_i X i hop
  obtain ⟨y, hy, rfl⟩ := Option.map_eq_some_iff.1 hx
  exact q_extract hop hy hA h
 ·rename_i c hop
  obtain ⟨callee, args, ats⟩ := c
  unfold compCall at hx
  simp only at hx
  split at hx
  ·exfalso
   split at hx
   ·split at hx
    ·cases hx; cases hq
    ·cases hx
   ·cases hx
  ·exfalso
   split at hx
   ·split at hx
    ·split at hx
     ·split at hx
      ·cases hx; cases hq
      ·cases hx
     ·cases hx
    ·cases hx
   ·cases hx
  ·split at hx
   ·rename_i X t hX ht
    split at hx
    ·rename_i e y hu hy
     cases hx
     obtain rfl : args = #[X] := by rw [← Array.toArray_toList (xs := args), hX]
     exact q_len (ty := 0) hI hop ht hu hy hA h
    ·cases hx; cases hq
    ·cases hx
   ·cases hx
  ·split at hx
   ·rename_i X t hX ht
    split at hx
    ·rename_i e y hu hy
     cases hx
     obtain rfl : args = #[X] := by rw [← Array.toArray_toList (xs := args), hX]
     exact q_cap (ty := 0) hI hop ht hu hy hA h
    ·cases hx
   ·cases hx
  ·split at hx
   ·rename_i y l hy
    cases hx
    cases hL : args.toList with
    | nil => rw [hL] at hy; cases hy
    | cons X L =>
     rw [hL] at hy
     simp only [opds] at hy
     split at hy
     ·rename_i h1 h2
      cases hy
      exact q_mnmx (mx := false) hI hop hL h1 h2 hA h
     ·cases hy
   ·cases hx
  ·split at hx
   ·rename_i y l hy
    cases hx
    cases hL : args.toList with
    | nil => rw [hL] at hy; cases hy
    | cons X L =>
     rw [hL] at hy
     simp only [opds] at hy
     split at hy
     ·rename_i h1 h2
      cases hy
      exact q_mnmx (mx := true) hI hop hL h1 h2 hA h
     ·cases hy
   ·cases hx
  ·exfalso
   split at hx
   ·split at hx
    ·split at hx
     ·split at hx
      ·cases hx; cases hq
      ·cases hx
     ·cases hx
    ·split at hx
     ·split at hx
      ·cases hx; cases hq
      ·cases hx
     ·cases hx
    ·cases hx
   ·cases hx
  ·obtain ⟨l, hl, rfl⟩ := Option.map_eq_some_iff.1 hx; cases hq
  ·cases hx
 ·split at hx
  ·cases hx; cases hq
  ·cases hx
 ·cases hx
end
end Go.Proofs.Ytofdnnjkfpomcaa.E

/- Operations that make or write memory. -/
namespace Go.Proofs.Ytofdnnjkfpomcaa.E
open Go
set_option linter.unusedVariables false

def Env.add (E : Env) (n : Nat) (r : Option (Nat × Nat)) : Env := { E with ρ := fun id => if id = n then r else E.ρ id }

section
variable {P : Program} {I : Ints} {p : Nat} {E : Env} {m : Mem} {w w' : World} {ts : List A} {a : Act}
variable {Wt : Nat → Prop}

/-- A live block's row is there. -/
theorem blk_lt (hs : Sat E m w) {b a_ base : Nat} {blk : Blk} (hb : m[b]? = some blk) (hl : blk.live) (hr : E.ρ b = some (a_, base)) : a_ < w.heap.size := by
 rcases hs.rep b blk hb hl with ⟨e, _⟩ | ⟨a', base', e, _, h, _⟩
 ·rw [e] at hr; cases hr
 ·rw [e] at hr; cases hr; exact h
theorem get_append {m : Mem} {blk blk' : Blk} {id : Nat} (h : (m ++ [blk])[id]? = some blk') : (id < m.length ∧ m[id]? = some blk') ∨ (id = m.length ∧ blk' = blk) := by
 rw [List.getElem?_append] at h
 split at h
 ·exact .inl ⟨by assumption, h⟩
 ·rename_i hlt
  cases hq : id - m.length with
  | zero => rw [hq] at h; simp at h; exact .inr ⟨by omega, h.symm⟩
  | succ n => rw [hq] at h; simp at h
/-- A name is added, for a row in a block that no live name has (r), or for no row at all. -/
theorem add_grow (hs : Sat E m w) {blk : Blk} {r : Option (Nat × Nat)} (hsz : w.heap.size ≤ w'.heap.size) (hos : w'.os = w.os) (htp : w'.tape = w.tape) (hou : w'.output = w.output) (hst : Stays w w')
  (hbl : ∀ k, k < w.heap.size → w'.heap[k]? = w.heap[k]?) (hr : ∀ a_ base, r = some (a_, base) → w.heap.size ≤ a_)
  (hrep : blk.live → (r = none ∧ blk.rows = []) ∨ ∃ a_ base, r = some (a_, base) ∧ w'.there a_ base (blk.rows.length * blk.es) ∧ a_ < w'.heap.size ∧ ∀ (i : Nat) (row : List C), blk.rows[i]? = some row → row.length = blk.es ∧ ∀ (j : Nat) (x : C), row[j]? = some x → ∃ u, w'.cell? (at_ a_ (base + (i * blk.es + j))) = some u ∧ CRep E m w x u)
  (hmp : ∀ ag l, blk = .mp ag l → ∃ a_, r = some (a_, 0) ∧ MapAt w' E.F ag l a_ := by intro _ _ h; cases h) :
  Grow Wt E m w (E.add m.length r) (m ++ [blk]) w' ∧ Sat (E.add m.length r) (m ++ [blk]) w' := by
 have hρ : ∀ id, id < m.length → (E.add m.length r).ρ id = E.ρ id := fun id h => if_neg (by omega)
 have hρn : (E.add m.length r).ρ m.length = r := if_pos rfl
 have step : Step E m w (E.add m.length r) (m ++ [blk]) w' :=
  {F := fun _ h => h, B := fun _ h => h, ρ := hρ, len := by simp
   shape := fun id blk' hid hb hl => by
    rw [List.getElem?_append_left hid] at hb
    exact ⟨blk', hb, hl, rfl, rfl⟩
   frz := fun k hk => hbl k (hs.old k hk)
   stays := hst }
 refine ⟨{ toStep := step, B' := fun _ h => h, os := hos, tape := htp, output := hou, size := hsz, block := fun k hk _ => hbl k hk, newF := fun k hk => .inl hk, newρ := fun id a_ x blk' hid hb hl he => ?_ }, ?_⟩
 ·rcases get_append hb with ⟨h1, _⟩ | ⟨h1, _⟩
  ·omega
  ·subst h1
   rw [hρn] at he
   exact .inl (hr _ _ he)
 ·refine ⟨fun id blk' hb hl => ?_, fun i j bi bj a_ x y hi hj li lj ei ej => ?_, fun i bi a_ x hi li ei => ?_, fun k hk => Nat.lt_of_lt_of_le (hs.old k hk) hsz, fun id ag l hb => ?_⟩
  ·rcases get_append hb with ⟨h1, h2⟩ | ⟨rfl, rfl⟩
   ·rw [hρ id h1]
    rcases hs.rep id blk' h2 hl with h | ⟨a_, base, e, g1, g2, g3⟩
    ·exact .inl h
    ·rw [e]
     exact BRep.step_rep step (hbl a_ g2) hsz (fun _ => .inr ⟨a_, base, rfl, g1, g2, g3⟩) hl
   ·rw [hρn]
    rcases hrep hl with h | ⟨a_, base, e, g1, g2, g3⟩
    ·exact .inl h
    ·exact .inr ⟨a_, base, e, g1, g2, fun i row hi => ⟨(g3 i row hi).1, fun j x hj => let ⟨u, q1, q2⟩ := (g3 i row hi).2 j x hj; ⟨u, q1, q2.step step⟩⟩⟩
  ·rcases get_append hi with ⟨h1, h2⟩ | ⟨h1, h2⟩ <;> rcases get_append hj with ⟨h3, h4⟩ | ⟨h3, h4⟩
   ·rw [hρ i h1] at ei
    rw [hρ j h3] at ej
    exact hs.inj i j bi bj a_ x y h2 h4 li lj ei ej
   ·subst h3
    rw [hρ i h1] at ei
    rw [hρn] at ej
    have := blk_lt hs h2 li ei
    have := hr _ _ ej
    omega
   ·subst h1
    rw [hρ j h3] at ej
    rw [hρn] at ei
    have := blk_lt hs h4 lj ej
    have := hr _ _ ei
    omega
   ·omega
  ·rcases get_append hi with ⟨h1, h2⟩ | ⟨h1, h2⟩
   ·rw [hρ i h1] at ei
    exact hs.dis i bi a_ x h2 li ei
   ·subst h1
    rw [hρn] at ei
    have := hr _ _ ei
    exact ⟨fun h => by have := hs.old a_ (.inl h); omega, fun h => by have := hs.old a_ (.inr h); omega⟩
  ·rcases get_append hb with ⟨h1, h2⟩ | ⟨h1, h2⟩
   ·obtain ⟨a_, e, hlt, hm⟩ := hs.maps id ag l h2
    exact ⟨a_, by rw [hρ id h1]; exact e, by omega, hm.step (fun _ h => h) (fun k hk => hbl k (hs.old k (.inl hk))) (hbl a_ hlt)⟩
   ·obtain ⟨a_, e, hm⟩ := hmp ag l h2.symm
    subst h1
    exact ⟨a_, hρn.trans e, hm.lt, hm⟩
theorem stays_below (hbl : ∀ k, k < w.heap.size → w'.heap[k]? = w.heap[k]?) : Stays w w' := by
 refine ⟨fun x hx => ?_, fun a es c h => ⟨es, c, (hbl a (Array.getElem?_eq_some_iff.1 h).1).trans h, fun i e h => ⟨e, h, rfl, rfl⟩⟩⟩
 have hlt : x.block < w.heap.size := by
  rcases Nat.lt_or_ge x.block w.heap.size with h | h
  ·exact h
  ·simp [World.cell?, Array.getElem?_eq_none h] at hx
 have h1 : w'.cell? x = w.cell? x := World.cell?_of_block (hbl _ hlt)
 have h2 : w'.frozen? x = w.frozen? x := World.frozen?_of_block (hbl _ hlt)
 exact ⟨by rw [h1]; exact hx, h2⟩
/-- A new block. -/
theorem new_grow (hs : Sat E m w) {blk : Blk} {g : Nat} {cs : Array Value} {ty : TypeId} (hl : blk.live) (hg : w.heap.size ≤ g) (hc : w'.heap[g]? = some (.cells cs ty (0, 0))) (hbl : ∀ k, k < w.heap.size → w'.heap[k]? = w.heap[k]?)
  (hsz : w.heap.size ≤ w'.heap.size) (hos : w'.os = w.os) (htp : w'.tape = w.tape) (hou : w'.output = w.output) (hn : blk.rows.length * blk.es ≤ cs.size)
  (hrows : ∀ (i : Nat) (row : List C), blk.rows[i]? = some row → row.length = blk.es ∧ ∀ (j : Nat) (x : C), row[j]? = some x → ∃ u, cs[i * blk.es + j]? = some u ∧ CRep E m w x u)
  (hnm : ∀ ag l, blk ≠ .mp ag l := by intro _ _ h; cases h) :
  Grow Wt E m w (E.add m.length (some (g, 0))) (m ++ [blk]) w' ∧ Sat (E.add m.length (some (g, 0))) (m ++ [blk]) w' := by
 have hcell : ∀ off, w'.cell? (at_ g off) = cs[off]? := fun off => by simp [World.cell?, at_, hc]
 have hglt : g < w'.heap.size := (Array.getElem?_eq_some_iff.1 hc).1
 refine add_grow hs hsz hos htp hou (stays_below hbl) hbl (fun a_ base e => by cases e; exact hg) (fun _ => .inr ⟨g, 0, rfl, fun j hj => ?_, hglt, fun i row hi => ⟨(hrows i row hi).1, fun j x hj => ?_⟩⟩) (fun ag l h => (hnm ag l h).elim)
 ·have h1 : w'.cell? ⟨g, 0 + j, none⟩ = cs[0 + j]? := hcell (0 + j)
  rw [h1]
  refine ⟨by simp; omega, by simp [World.frozen?, hc]⟩
 ·obtain ⟨u, h1, h2⟩ := (hrows i row hi).2 j x hj
  exact ⟨u, by rw [hcell, Nat.zero_add]; exact h1, h2⟩
/-- The same, for a block that is made by the operation. -/
theorem alloc_grow (hs : Sat E m w) {blk : Blk} {cs : Array Value} {ty : TypeId} (hl : blk.live) (hn : blk.rows.length * blk.es ≤ cs.size)
  (hrows : ∀ (i : Nat) (row : List C), blk.rows[i]? = some row → row.length = blk.es ∧ ∀ (j : Nat) (x : C), row[j]? = some x → ∃ u, cs[i * blk.es + j]? = some u ∧ CRep E m w x u)
  (hnm : ∀ ag l, blk ≠ .mp ag l := by intro _ _ h; cases h) :
  Grow Wt E m w (E.add m.length (some (w.heap.size, 0))) (m ++ [blk]) (w.alloc (.cells cs ty)) ∧ Sat (E.add m.length (some (w.heap.size, 0))) (m ++ [blk]) (w.alloc (.cells cs ty)) :=
 new_grow hs hl (Nat.le_refl _) (heap_alloc_new w _) (fun k hk => heap_alloc_old w _ hk) (by simp) rfl rfl rfl hn hrows hnm
variable {wr : Option (List Nat × Nat)} {er : Bool} {o : Oper} {k : A → Mem → Tree} {Q : Exit → Act → World → Prop}
/-- An operation that may change the memory. -/
def LRes (P : Program) (I : Ints) (p : Nat) (E : Env) (m : Mem) (w : World) (wr : Option (List Nat × Nat)) (a : Act) (o : Oper) (k : A → Mem → Tree) (Q : Exit → Act → World → Prop) : Prop :=
 ∀ K : Act → World → Prop, (∀ av v E' m' w', Holds P I p (k av m') → Grow (fun b => okW wr b = true) E m w E' m' w' → Sat E' m' w' → ARep E' m' w' av v → K (a.put o.dst v) w') → o.wp P a w K Q
theorem l_box {t : TypeId} {X : Operand} {x : Opd} (hop : o.op = .box t X) (ho : opd X = some x) (hA : At E m w ts a) (h : Holds P I p (evOp I er wr (.box x) ts m k)) : LRes P I p E m w wr a o k Q := by
 obtain ⟨c, hc, hn, h⟩ := evV_inv ho hA h
 obtain ⟨c1, c2⟩ := cells_rep hc hn
 intro K hK
 have hg := alloc_grow (Wt := fun b => okW wr b = true) (ty := t) (blk := .lit c.cells.length [c.cells]) (cs := (a.eval X).cells) hA.sat trivial (by simp [Blk.rows, Blk.es, c1.1]) (fun i row hi => by
  cases i with
  | zero =>
   simp [Blk.rows] at hi
   subst hi
   exact ⟨rfl, fun j x hj => by simpa [Blk.es] using c1.2 j x hj⟩
  | succ i => simp [Blk.rows] at hi)
 have hrun : (execOp a.eval o).run P w = .ok (.value (.pointer (some ⟨w.heap.size, 0, none⟩))) (w.alloc (.cells (a.eval X).cells t)) := by
  simp [execOp, hop, Instr.box, newVar, newRow]
 unfold Oper.wp
 rw [hrun]
 refine hK _ _ _ _ _ h hg.1 hg.2 (.inr ⟨by simp, w.heap.size, 0, if_pos rfl, ?_⟩)
 simp [at_]
theorem l_alloc {t : TypeId} {z : List C} (hop : o.op = .alloc t) (hz : zero P t = some z) (hA : At E m w ts a) (h : Holds P I p (evOp I er wr (.alloc z) ts m k)) : LRes P I p E m w wr a o k Q := by
 obtain ⟨i, v, h1, h2, h3, c1, c2⟩ := zero_rep hz E m w
 intro K hK
 have hg := alloc_grow (Wt := fun b => okW wr b = true) (ty := t) (blk := .lit z.length [z]) (cs := v.cells) hA.sat trivial (by simp [Blk.rows, Blk.es, c1.1]) (fun i row hi => by
  cases i with
  | zero =>
   simp [Blk.rows] at hi
   subst hi
   exact ⟨rfl, fun j x hj => by simpa [Blk.es] using c1.2 j x hj⟩
  | succ i => simp [Blk.rows] at hi)
 have hrun : (execOp a.eval o).run P w = .ok (.value (.pointer (some ⟨w.heap.size, 0, none⟩))) (w.alloc (.cells v.cells t)) := by
  simp [execOp, hop, Instr.alloc, zeroValue, typeInfo, h1, h2, newVar, newRow]
 unfold Oper.wp
 rw [hrun]
 refine hK _ _ _ _ _ h hg.1 hg.2 (.inr ⟨by simp, w.heap.size, 0, if_pos rfl, ?_⟩)
 simp [at_]
theorem there_alloc {cs : Array Value} {ty : TypeId} {n : Nat} (h : n ≤ cs.size) : (w.alloc (.cells cs ty)).there w.heap.size 0 n := fun j hj => by
 have hc : (w.alloc (.cells cs ty)).heap[w.heap.size]? = some (.cells cs ty (0, 0)) := heap_alloc_new w _
 have h1 : (w.alloc (.cells cs ty)).cell? ⟨w.heap.size, 0 + j, none⟩ = cs[0 + j]? := by simp only [World.cell?, hc, Option.isSome_none, Bool.false_eq_true, if_false]
 rw [h1]
 refine ⟨by simp; omega, by simp only [World.frozen?, hc]; simp⟩
/-- Elements one behind the other. -/
theorem rows_flat {cs : List C} {es n : Nat} (hl : cs.length = n * es) {i : Nat} {row : List C} (hi : ((List.range n).map fun i => (cs.drop (i * es)).take es)[i]? = some row) : row.length = es ∧ ∀ (j : Nat) (x : C), row[j]? = some x → cs[i * es + j]? = some x := by
 rw [List.getElem?_map] at hi
 cases hr : (List.range n)[i]? with
 | none => simp [hr] at hi
 | some q =>
  obtain ⟨hlt, hq⟩ := List.getElem?_eq_some_iff.1 hr
  simp at hlt hq
  subst hq
  simp [hr] at hi
  subst hi
  have : (i + 1) * es ≤ n * es := Nat.mul_le_mul_right es hlt
  rw [Nat.add_mul] at this
  refine ⟨by simp; omega, fun j x hj => ?_⟩
  rw [List.getElem?_take] at hj
  split at hj
  ·rwa [List.getElem?_drop] at hj
  ·cases hj
theorem compParts_build : ∀ {ps : List (Nat × Operand)} {l : List (Nat × Opd)} {es : Nat} {k : List (Nat × Nat × V1) → Tree}, compParts ps = some l → At E m w ts a → Holds P I p (evParts ts (l.map fun (i, x) => (i * es, es, x)) k) → ∃ vs, Parts E m w a (fun i => some (i * es, es)) ps vs ∧ Holds P I p (k vs)
 | [], l, es, k, hc, hA, h => by cases hc; exact ⟨[], .nil, h⟩
 | (i, X) :: ps, l, es, k, hc, hA, h => by
  simp only [compParts] at hc
  split at hc
  ·rename_i x l' hx hl
   cases hc
   obtain ⟨v, h1, h2, h3⟩ := evV_inv hx hA h
   obtain ⟨vs, h4, h5⟩ := compParts_build hl hA h3
   exact ⟨_, .cons rfl h1 h2 h4, h5⟩
  ·cases hc
theorem zeros_rep {z : List C} {zc : Array Value} (h : CellsRep E m w z zc) (hn : 0 < z.length) (n : Nat) : CellsRep E m w (List.replicate n z).flatten ((Array.range (n * z.length)).map (zc[· % zc.size]!)) := by
 have hlen : (List.replicate n z).flatten.length = n * z.length := by simp
 refine ⟨by simp, fun i x hi => ?_⟩
 have hilt : i < n * z.length := by rw [← hlen]; exact (List.getElem?_eq_some_iff.1 hi).1
 have hx : z[i % z.length]? = some x := by
  have key : ∀ n i, i < n * z.length → (List.replicate n z).flatten[i]? = z[i % z.length]? := by
   intro n
   induction n with
   | zero => intro i h; simp at h
   | succ n ih =>
    intro i h
    rw [List.replicate_succ, List.flatten_cons, List.getElem?_append]
    split
    ·rename_i hlt
     rw [Nat.mod_eq_of_lt hlt]
    ·rename_i hge
     rw [Nat.add_mul] at h
     rw [ih (i - z.length) (by omega), ← Nat.mod_eq_sub_mod (by omega)]
  rw [← key n i hilt]
  exact hi
 obtain ⟨u, h1, h2⟩ := h.2 _ x hx
 refine ⟨u, ?_, h2⟩
 have hs : zc.size = z.length := h.1
 have hlt : i % zc.size < zc.size := Nat.mod_lt _ (by omega)
 rw [hs] at hlt
 simp only [Array.getElem?_map, Array.getElem?_range]
 simp only [hilt, if_true, Option.map_some, hs]
 rw [Array.getElem!_eq_getD, Array.getD_eq_getD_getElem?, h1]
 rfl
theorem range0 (f : Nat → Value) : (Array.range 0).map f = #[] := Array.eq_empty_of_size_eq_zero (by simp)
theorem run_build0 (w : World) (t e : TypeId) (parts : Array (Nat × Value)) (cells : Array Value) (ie : TypeInfo)
  (hu : P.underlying t = some (.slice e)) (hie : P.info? e = some ie) (h : Instr.fill (fun i => some (i * ie.size, ie.size)) #[] parts.toList = some cells) :
  (Instr.buildSlice t 0 parts).run P w = .ok (.slice (some ⟨w.heap.size, 0, none⟩) 0 0) (w.alloc (.cells cells e)) := by
 have h' : ∀ f : Nat → Value, Instr.fill (fun i => some (i * ie.size, ie.size)) ((Array.range 0).map f) parts.toList = some cells := fun f => by
  rw [range0 f]
  exact h
 simp [Instr.buildSlice, run_underlying hu, sizeOf, typeInfo, hie, h', newRow]
theorem run_build (w : World) (t e : TypeId) (n : Nat) (parts : Array (Nat × Value)) (cells : Array Value) (ie : TypeInfo) (z : Value)
  (hu : P.underlying t = some (.slice e)) (hie : P.info? e = some ie) (hz : ie.zero = some z) (hsmall : ¬ n * ie.size > 2 ^ 24) (h0 : 0 < ie.size)
  (h : Instr.fill (fun i => some (i * ie.size, ie.size)) ((Array.range (n * ie.size)).map (z.cells[· % z.cells.size]!)) parts.toList = some cells) :
  (Instr.buildSlice t n parts).run P w = .ok (.slice (some ⟨w.heap.size, 0, none⟩) n n) (w.alloc (.cells cells e)) := by
 cases n with
 | zero =>
  rw [Nat.zero_mul, range0] at h
  exact run_build0 w t e parts cells ie hu hie h
 | succ n => exact run_buildSlice w t e (n + 1) parts cells ie z hu hie hz hsmall (Nat.ne_of_gt (Nat.mul_pos (Nat.succ_pos n) h0)) h
theorem buildSlice_core {t e : TypeId} {es n : Nat} {ps : Array (Nat × Operand)} {z : List C} {vs : List (Nat × Nat × V1)} (hop : o.op = .buildSlice t n ps) (ht : P.underlying t = some (.slice e)) (hs : size? P e = some es) (hz : zero P e = some z) (hP : Parts E m w a (fun i => some (i * es, es)) ps.toList vs)
  (h0 : 0 < es) (hsm : n * es ≤ 2 ^ 24) (hA : At E m w ts a) (h : Holds P I p (match places (List.replicate n z).flatten vs with
   | some cs => k (.one (.c (.row m.length es (some (.lit n))))) (m ++ [.lit es ((List.range n).map fun i => (cs.drop (i * es)).take es)])
   | none => .fail)) : LRes P I p E m w wr a o k Q := by
 obtain ⟨ie, zv, h1, h2, h3, c1, c2⟩ := zero_rep hz E m w
 have hes : ie.size = es := by unfold size? at hs; simpa [h1] using hs
 have hzl : z.length = es := by rw [← c1.1, h3, hes]
 split at h
 ·rename_i cs hcs
  have hz0 := zeros_rep c1 (by omega) n
  rw [hzl] at hz0
  have h1c : ∀ q ∈ ((Array.range (n * es)).map (zv.cells[· % zv.cells.size]!)).toList, q.oneCell' = true := fun q hq => by
   obtain ⟨j, hj⟩ := List.mem_iff_getElem?.1 hq
   have hj' : ((Array.range (n * es)).map (zv.cells[· % zv.cells.size]!))[j]? = some q := by rw [← Array.getElem?_toList]; exact hj
   obtain ⟨hlt, -⟩ := Array.getElem?_eq_some_iff.1 hj'
   obtain ⟨x, hx⟩ : ∃ x, (List.replicate n z).flatten[j]? = some x := ⟨(List.replicate n z).flatten[j]'(by rw [← hz0.1]; exact hlt), List.getElem?_eq_getElem _⟩
   obtain ⟨u, h3, h4⟩ := hz0.2 j x hx
   rw [hj'] at h3
   cases h3
   exact h4.one
  obtain ⟨cells, g1, g2⟩ := fill_places hP hcs hz0 h1c
  have hclen : cs.length = n * es := by
   have key : ∀ (vs : List (Nat × Nat × V1)) (z cs : List C), places z vs = some cs → cs.length = z.length := by
    intro vs
    induction vs with
    | nil => intro z cs h; cases h; rfl
    | cons v vs ih =>
     obtain ⟨off, n, v⟩ := v
     intro z cs h
     simp only [places] at h
     split at h
     ·rw [ih _ _ h]
      have : ∀ (l : List C) (r : List C) (j : Nat), (setSeg r j l).length = r.length := by
       intro l
       induction l with
       | nil => intro r j; rfl
       | cons c l ih => intro r j; simp [setSeg, ih]
      exact this _ _ _
     ·cases h
   rw [key _ _ _ hcs]
   simp [hzl]
  intro K hK
  have hg := alloc_grow (Wt := fun b => okW wr b = true) (ty := e) (blk := .lit es ((List.range n).map fun i => (cs.drop (i * es)).take es)) (cs := cells) hA.sat trivial (by simp [Blk.rows, Blk.es, g2.1, hclen]) (fun i row hi => by
   obtain ⟨q1, q2⟩ := rows_flat hclen hi
   exact ⟨q1, fun j x hj => g2.2 _ x (q2 j x hj)⟩)
  have hrun : (execOp a.eval o).run P w = .ok (.value (.slice (some ⟨w.heap.size, 0, none⟩) n n)) (w.alloc (.cells cells e)) := by
   have := run_build (P := P) w t e n (ps.map fun (i, x) => (i, a.eval x)) cells ie zv ht h1 h2 (by rw [hes]; omega) (by omega) (by rw [hes, Array.toList_map]; exact g1)
   simp [execOp, hop, this]
  unfold Oper.wp
  rw [hrun]
  refine hK _ _ _ _ _ h hg.1 hg.2 (.inr ⟨by simp, rfl, fun blk hb hl => ?_⟩)
  simp at hb
  subst hb
  refine ⟨rfl, fun c' hc' => by cases hc'; simp [Blk.rows], .inr ⟨w.heap.size, 0, n, if_pos rfl, by simp [Blk.rows, at_], by simp [Blk.rows], fun c' hc' => by cases hc'; rfl, fun j hj => ?_⟩⟩
  exact there_alloc (by rw [g2.1, hclen]; omega) j hj
 ·exact (holds_fail h).elim
theorem grounds_map : ∀ {l : List C} {g : List G}, grounds l = some g → g.map C.g = l
 | [], g, h => by cases h; rfl
 | .g x :: r, g, h => by
  simp only [grounds] at h
  split at h
  ·rename_i l hl
   cases h
   simp [grounds_map hl]
  ·cases h
 | .any :: r, g, h => by cases h
 | .bor _ _ :: r, g, h => by cases h
 | .gp _ _ :: r, g, h => by cases h
 | .ptr _ _ _ _ :: r, g, h => by cases h
 | .row _ _ _ :: r, g, h => by cases h
 | .sl _ _ _ _ _ :: r, g, h => by cases h
 | .fn _ _ :: r, g, h => by cases h
theorem zcell {z : List C} {zc : Array Value} {es n i j : Nat} {x : C} (h : CellsRep E m w z zc) (hz : z.length = es) (hi : i < n) (hj : z[j]? = some x) : ∃ u, ((Array.range (n * es)).map (zc[· % zc.size]!))[i * es + j]? = some u ∧ CRep E m w x u := by
 have hjl : j < es := by rw [← hz]; exact (List.getElem?_eq_some_iff.1 hj).1
 have : (i + 1) * es ≤ n * es := Nat.mul_le_mul_right es hi
 rw [Nat.add_mul] at this
 obtain ⟨u, h1, h2⟩ := h.2 j x hj
 refine ⟨u, ?_, h2⟩
 have hs : zc.size = es := by rw [h.1, hz]
 have hmod : (i * es + j) % es = j := by rw [Nat.mul_comm, Nat.mul_add_mod, Nat.mod_eq_of_lt hjl]
 simp only [Array.getElem?_map, Array.getElem?_range]
 rw [if_pos (by omega)]
 simp only [Option.map_some, hs, hmod]
 rw [Array.getElem!_eq_getD, Array.getD_eq_getD_getElem?, h1]
 rfl
theorem run_make_pos {t e : TypeId} {ie : TypeInfo} {zv : Value} (ht : P.underlying t = some (.slice e)) (hi : P.info? e = some ie) (hz : ie.zero = some zv) (h0 : 0 < ie.size) (hb : 0 < ie.bytes) (n c : Nat) (hn : n ≤ c) (hc : c * ie.bytes ≤ 140737488355328) (i j : IntKind) (hc0 : 0 < c) (w : World) :
  (Instr.makeSlice t (.int i (n : Int)) (.int j (c : Int))).run P w = .ok (.slice (some ⟨w.heap.size, 0, none⟩) n c) (w.alloc (.cells ((Array.range (c * ie.size)).map (zv.cells[· % zv.cells.size]!)) e)) := by
 have hcb : c ≤ c * ie.bytes := Nat.le_mul_of_pos_right c hb
 have w1 : IntKind.i64.wrap (n : Int) = (n : Int) := IntWalk.i64_in _ (by omega)
 have w2 : IntKind.i64.wrap (c : Int) = (c : Int) := IntWalk.i64_in _ (by omega)
 have h1 : ¬ ((ie.bytes : Int) * (c : Int) > 2 ^ 48) := by
  rw [Int.mul_comm]
  have this : ((c * ie.bytes : Nat) : Int) ≤ ((140737488355328 : Nat) : Int) := Int.ofNat_le.2 hc
  rw [Int.natCast_mul] at this
  omega
 have hpos : c * ie.size ≠ 0 := by have := Nat.mul_pos hc0 h0; omega
 have hroom : ∀ b w', (askRoom b).run P w' = .ok () w' := fun b w' => by unfold askRoom; split <;> rfl
 have h2 : ¬ ((c : Int) < 0) := by omega
 have h3 : ¬ ((n : Int) < 0) := by omega
 have h4 : ¬ ((n : Int) > (c : Int)) := by omega
 simp [Instr.makeSlice, run_underlying ht, asInt, run_asIntOf, typeInfo, hi, w1, w2, h2, h3, hroom, sizeOf, hpos, zeroValue, hz, newRow]
 intro hx
 exfalso
 rcases hx with hx | hx
 ·exact h1 (by have : (2 : Int) ^ 48 = 281474976710656 := rfl; rw [this]; exact hx)
 ·omega
theorem run_make {t e : TypeId} {ie : TypeInfo} {zv : Value} (ht : P.underlying t = some (.slice e)) (hi : P.info? e = some ie) (hz : ie.zero = some zv) (h0 : 0 < ie.size) (hb : 0 < ie.bytes) (n c : Nat) (hn : n ≤ c) (hc : c * ie.bytes ≤ 140737488355328) (i j : IntKind) (w : World) :
  (Instr.makeSlice t (.int i (n : Int)) (.int j (c : Int))).run P w = .ok (.slice (some ⟨w.heap.size, 0, none⟩) n c) (w.alloc (.cells ((Array.range (c * ie.size)).map (zv.cells[· % zv.cells.size]!)) e)) := by
 rcases Nat.eq_zero_or_pos c with rfl | hc0
 ·obtain rfl : n = 0 := by omega
  have w1 : IntKind.i64.wrap 0 = 0 := IntWalk.i64_in _ (by omega)
  have hroom : ∀ b w', (askRoom b).run P w' = .ok () w' := fun b w' => by unfold askRoom; split <;> rfl
  simp [Instr.makeSlice, run_underlying ht, asInt, run_asIntOf, typeInfo, hi, w1, hroom, sizeOf, newRow]
  rw [show Array.range 0 = (#[] : Array Nat) from by decide, Array.map_empty, Array.map_empty]
 ·exact run_make_pos ht hi hz h0 hb n c hn hc i j hc0 w
theorem l_make {t e : TypeId} {ie : TypeInfo} {L Cp : Operand} {z : List C} {n c : Nat} {i j : IntKind} (hop : o.op = .makeSlice t L Cp) (ht : P.underlying t = some (.slice e)) (hi : P.info? e = some ie) (hz : zero P e = some z) (h0 : 0 < ie.size) (hb : 0 < ie.bytes)
  (hL : a.eval L = .int i (n : Int)) (hC : a.eval Cp = .int j (c : Int)) (hn : n ≤ c) (hc : c * ie.bytes ≤ 140737488355328) (hA : At E m w ts a) {z' : List C} (hz' : z' = z ∨ z' = z.map C.sy) {blk : Blk} (hbr : blk.rows = List.replicate c z') (hbl : blk.live) (hbe : blk.es = ie.size) {x : C}
  (hx : ∀ (E' : Env) (w' : World), E'.ρ m.length = some (w.heap.size, 0) → (w'.there w.heap.size 0 (c * ie.size)) → CRep E' (m ++ [blk]) w' x (.slice (some ⟨w.heap.size, 0, none⟩) n c))
  (h : Holds P I p (k (.one (.c x)) (m ++ [blk]))) : LRes P I p E m w wr a o k Q := by
 obtain ⟨i', zv, h1, h2, h3, c1, c2⟩ := zero_rep hz E m w
 rw [hi] at h1
 cases h1
 replace c1 : CellsRep E m w z' zv.cells := by
  rcases hz' with rfl | rfl
  ·exact c1
  ·refine ⟨by simpa using c1.1, fun i x hi => ?_⟩
   rw [List.getElem?_map] at hi
   obtain ⟨y, hy, rfl⟩ := Option.map_eq_some_iff.1 hi
   obtain ⟨u, q1, q2⟩ := c1.2 i y hy
   exact ⟨u, q1, C_sy q2⟩
 have hzl : z'.length = ie.size := by rw [← c1.1, h3]
 intro K hK
 have hg := alloc_grow (Wt := fun b => okW wr b = true) (ty := e) (blk := blk) (cs := (Array.range (c * ie.size)).map (zv.cells[· % zv.cells.size]!)) (hnm := fun _ _ e => by subst e; simp [Blk.es] at hbe; omega) hA.sat hbl (by simp [hbr, hbe]) (fun q row hq => by
  rw [hbr, List.getElem?_replicate] at hq
  split at hq
  ·rename_i hqc
   cases hq
   rw [hbe]
   exact ⟨hzl, fun j x hj => zcell c1 hzl hqc hj⟩
  ·cases hq)
 have hrun : (execOp a.eval o).run P w = .ok (.value (.slice (some ⟨w.heap.size, 0, none⟩) n c)) (w.alloc (.cells ((Array.range (c * ie.size)).map (zv.cells[· % zv.cells.size]!)) e)) := by
  simp [execOp, hop, hL, hC, run_make ht hi h2 h0 hb n c hn hc i j]
 unfold Oper.wp
 rw [hrun]
 exact hK _ _ _ _ _ h hg.1 hg.2 (.inr (hx _ _ (if_pos rfl) (there_alloc (by simp))))
theorem row_new {blk : Blk} {E' : Env} {w' : World} {g es n : Nat} {cap : Option NN} (hρ : E'.ρ m.length = some (g, 0)) (hes : blk.es = es) (hn : blk.rows.length = n) (hcap : ∀ c' : NN, cap = some c' → c'.val = n) {c : Nat} (hc : n ≤ c) (hcc : capIs cap c) (ht : w'.there g 0 (c * es)) :
  CRep E' (m ++ [blk]) w' (.row m.length es cap) (.slice (some ⟨g, 0, none⟩) n c) := by
 refine ⟨by simp, rfl, fun blk' hb hl => ?_⟩
 simp at hb
 subst hb
 exact ⟨hes, by rw [hn]; exact hcap, .inr ⟨g, 0, c, hρ, by rw [hn]; rfl, by omega, hcc, ht⟩⟩
theorem map_sy {g : List G} {z : List C} (h : g.map C.g = z) : (g.map G.sy).map C.g = z.map C.sy := by
 rw [← h, List.map_map, List.map_map]
 refine List.map_congr_left fun x _ => ?_
 cases x <;> rfl
theorem l_makeSlice {t e : TypeId} {ie : TypeInfo} {L Cp : Operand} {z : List C} {l : Opd} (hI : I = ints) (hop : o.op = .makeSlice t L Cp) (ht : P.underlying t = some (.slice e)) (hi : P.info? e = some ie) (hz : zero P e = some z) (h0 : 0 < ie.size) (hb : 0 < ie.bytes) (hb2 : ie.bytes ≤ 4096)
  (hl : opd L = some l) (hsame : ∀ i n, a.eval L = .int i n → ∃ j, a.eval Cp = .int j n) (hA : At E m w ts a) (h : Holds P I p (evOp I er wr (.makeSlice ie.size ie.bytes z l none) ts m k)) : LRes P I p E m w wr a o k Q := by
 obtain ⟨i, n, hn, h⟩ := evZ_inv hl hA h
 obtain ⟨j, hC⟩ := hsame i _ hn
 cases n with
 | lit n =>
  simp only at h
  split at h
  ·rename_i g g0 hg
   cases h with
   | size c e1 e2 h =>
   subst hI
   rw [show (Z.lit n).val = n from rfl, e1] at hn hC
   have hzg := grounds_map hg
   refine l_make (blk := .sym ie.size (List.replicate c (g.map G.sy))) hop ht hi hz h0 hb hn hC (Nat.le_refl _) e2 hA (.inr rfl) (by rw [← map_sy hzg]; simp [Blk.rows]) trivial rfl (fun E' w' hρ hth => ?_) h
   exact row_new hρ rfl (by simp [Blk.rows]) (fun c' hc' => by cases hc'; rfl) (Nat.le_refl _) (fun c' hc' => by cases hc'; rfl) hth
  split at h
  ·rename_i g1 g2
   have g1 := of_decide_eq_true g1
   have g2 := of_decide_eq_true g2
   obtain ⟨n, rfl⟩ := Int.eq_ofNat_of_zero_le g1
   refine l_make (blk := .lit ie.size (List.replicate n z)) hop ht hi hz h0 hb hn hC (Nat.le_refl _) (by have := Nat.mul_le_mul (show n ≤ 4096 by omega) hb2; omega) hA (.inl rfl) rfl trivial rfl (fun E' w' hρ hth => ?_) h
   exact row_new hρ rfl (by simp [Blk.rows]) (fun c' hc' => by cases hc'; rfl) (Nat.le_refl _) (fun c' hc' => by cases hc'; rfl) hth
  ·exact (holds_fail h).elim
 | sym n =>
  cases hg : grounds z with
  | none => simp only [hg] at h; exact (holds_fail h).elim
  | some g =>
   simp only [hg] at h
   cases h with
   | size c e1 e2 h =>
   subst hI
   rw [Z.val_sym, e1] at hn hC
   have hzg := grounds_map hg
   refine l_make (blk := .sym ie.size (List.replicate c (g.map G.sy))) hop ht hi hz h0 hb hn hC (Nat.le_refl _) e2 hA (.inr rfl) (by rw [← map_sy hzg]; simp [Blk.rows]) trivial rfl (fun E' w' hρ hth => ?_) h
   exact row_new hρ rfl (by simp [Blk.rows]) (fun c' hc' => by cases hc'; rfl) (Nat.le_refl _) (fun c' hc' => by cases hc'; rfl) hth
theorem l_makeSlice2 {t e : TypeId} {ie : TypeInfo} {L Cp : Operand} {z : List C} {l c : Opd} (hI : I = ints) (hop : o.op = .makeSlice t L Cp) (ht : P.underlying t = some (.slice e)) (hi : P.info? e = some ie) (hz : zero P e = some z) (h0 : 0 < ie.size) (hb : 0 < ie.bytes)
  (hl : opd L = some l) (hc : opd Cp = some c) (hA : At E m w ts a) (h : Holds P I p (evOp I er wr (.makeSlice ie.size ie.bytes z l (some c)) ts m k)) : LRes P I p E m w wr a o k Q := by
 obtain ⟨i, n, hn, h⟩ := evZ_inv hl hA h
 obtain ⟨j, cz, hC, h⟩ := evZ_inv hc hA h
 split at h
 ·rename_i g hg
  cases h with
  | size c e1 e2 h =>
  cases h with
  | idx n' e3 e4 h =>
  subst hI
  rw [e3] at hn
  rw [e1] at hC
  have e4 : n' < c + 1 := e4
  have hzg := grounds_map hg
  refine l_make (blk := .sym ie.size (List.replicate c (g.map G.sy))) hop ht hi hz h0 hb hn hC (by omega) e2 hA (.inr rfl) (by rw [← map_sy hzg]; simp [Blk.rows]) trivial rfl (fun E' w' hρ hth => ?_) h
  refine ⟨by simp, rfl, fun blk' hb hl => ?_⟩
  simp at hb
  subst hb
  exact ⟨rfl, by simp [Blk.rows]; omega, fun c' hc' => by cases hc'; simp [Blk.rows], .inr ⟨w.heap.size, 0, c, 0, hρ, rfl, fun _ => by simp, by simp; omega, fun c' hc' => by cases hc'; rfl, by simpa using hth⟩⟩
 ·exact (holds_fail h).elim
end
end Go.Proofs.Ytofdnnjkfpomcaa.E

/- Stores. -/
namespace Go.Proofs.Ytofdnnjkfpomcaa.E
open Go
set_option linter.unusedVariables false

section
variable {P : Program} {I : Ints} {p : Nat} {E : Env} {m : Mem} {w w' : World} {ts : List A} {a : Act}
variable {Wt : Nat → Prop}
theorem get_set {m : Mem} {b id : Nat} {blk blk' : Blk} (h : (m.set b blk')[id]? = some blk) : (id = b ∧ blk = blk' ∧ b < m.length) ∨ (id ≠ b ∧ m[id]? = some blk) := by
 rw [List.getElem?_set] at h
 by_cases hb : b = id
 ·subst hb
  by_cases hl : b < m.length
  ·simp only [hl, if_true, Option.some.injEq] at h
   exact .inl ⟨rfl, h.symm, hl⟩
  ·simp [hl] at h
 ·simp only [hb, if_false] at h
  exact .inr ⟨fun e => hb e.symm, h⟩
/-- One block is written. -/
theorem write_grow (hs : Sat E m w) {b a_ base : Nat} {blk blk' : Blk} (hb : m[b]? = some blk) (hl : blk.live) (hl' : blk'.live) (hρ : E.ρ b = some (a_, base)) (hW : Wt b) (hos : w'.os = w.os) (htp : w'.tape = w.tape) (hou : w'.output = w.output) (hsz : w'.heap.size = w.heap.size)
  (hbl : ∀ k, k ≠ a_ → w'.heap[k]? = w.heap[k]?) (hst : Stays w w') (hlen : blk'.rows.length = blk.rows.length) (hes : blk'.es = blk.es)
  (hrep : ∀ (i : Nat) (row : List C), blk'.rows[i]? = some row → row.length = blk'.es ∧ ∀ (j : Nat) (x : C), row[j]? = some x → ∃ u, w'.cell? (at_ a_ (base + (i * blk'.es + j))) = some u ∧ CRep E m w x u)
  (hmp : ∀ ag l, blk' = .mp ag l → base = 0 ∧ MapAt w' E.F ag l a_ := by intro _ _ h; cases h) :
  Grow Wt E m w E (m.set b blk') w' ∧ Sat E (m.set b blk') w' := by
 have hdis := hs.dis b blk a_ base hb hl hρ
 have step : Step E m w E (m.set b blk') w' :=
  {F := fun _ h => h, B := fun _ h => h, ρ := fun _ _ => rfl, len := by simp
   shape := fun id blk1 hid h1 h2 => by
    rcases get_set h1 with ⟨rfl, rfl, _⟩ | ⟨_, h3⟩
    ·exact ⟨blk, hb, hl, hlen, hes⟩
    ·exact ⟨blk1, h3, h2, rfl, rfl⟩
   frz := fun k hk => hbl k (fun e => by subst e; exact hk.elim hdis.1 hdis.2)
   stays := hst }
 refine ⟨{ toStep := step, B' := fun _ h => h, os := hos, tape := htp, output := hou, size := Nat.le_of_eq hsz.symm, block := fun k hk hn => hbl k (fun e => hn ⟨b, blk, base, hb, hl, hW, e ▸ hρ⟩), newF := fun k hk => .inl hk, newρ := fun id a_ x blk1 hid h1 _ _ => ?_ }, ?_⟩
 ·rw [List.getElem?_eq_none (by simpa using hid)] at h1; cases h1
 ·refine ⟨fun id blk1 h1 l1 => ?_, fun i j bi bj c x y hi hj li lj ei ej => ?_, fun i bi c x hi li ei => ?_, fun k hk => by rw [hsz]; exact hs.old k hk, fun id ag l h1 => ?_⟩
  ·rcases get_set h1 with ⟨rfl, rfl, _⟩ | ⟨hne, h3⟩
   ·rcases hs.rep _ blk hb hl with ⟨e, _⟩ | ⟨a', base', e, g1, g2, g3⟩
    ·rw [e] at hρ; cases hρ
    ·rw [e] at hρ
     cases hρ
     refine .inr ⟨a_, base, e, by rw [hlen, hes]; exact there_stays hst g1, by omega, fun i row hi => ⟨(hrep i row hi).1, fun j x hj => ?_⟩⟩
     obtain ⟨u, q1, q2⟩ := (hrep i row hi).2 j x hj
     exact ⟨u, q1, q2.step step⟩
   ·rcases hs.rep id blk1 h3 l1 with h | ⟨a', base', e, g1, g2, g3⟩
    ·exact .inl h
    ·have hne' : a' ≠ a_ := fun e' => by
      subst e'
      exact hne (hs.inj id b blk1 blk a' base' base h3 hb l1 hl e hρ)
     rw [e]
     exact BRep.step_rep step (hbl a' hne') (Nat.le_of_eq hsz.symm) (fun _ => .inr ⟨a', base', rfl, g1, g2, g3⟩) l1
  ·have old : ∀ (i : Nat) (bi : Blk), (m.set b blk')[i]? = some bi → bi.live → ∃ b0, m[i]? = some b0 ∧ b0.live := fun i bi hi li => by
    rcases get_set hi with ⟨rfl, rfl, _⟩ | ⟨_, h3⟩
    ·exact ⟨blk, hb, hl⟩
    ·exact ⟨bi, h3, li⟩
   obtain ⟨b1, q1, q2⟩ := old i bi hi li
   obtain ⟨b2, q3, q4⟩ := old j bj hj lj
   exact hs.inj i j b1 b2 c x y q1 q3 q2 q4 ei ej
  ·rcases get_set hi with ⟨rfl, rfl, _⟩ | ⟨_, h3⟩
   ·exact hs.dis _ blk c x hb hl ei
   ·exact hs.dis i bi c x h3 li ei
  ·rcases get_set h1 with ⟨rfl, e, _⟩ | ⟨hne, h3⟩
   ·obtain ⟨rfl, hm⟩ := hmp ag l e.symm
    exact ⟨a_, hρ, hm.lt, hm⟩
   ·obtain ⟨a', e, hlt, hm⟩ := hs.maps id ag l h3
    have hne' : a' ≠ a_ := fun e' => by
     subst e'
     exact hne (hs.inj id b _ blk a' 0 base h3 hb trivial hl e hρ)
    exact ⟨a', e, by omega, hm.step (fun _ h => h) (fun k hk => hbl k (fun e => by subst e; exact hdis.1 hk)) (hbl a' hne')⟩
theorem setCells_map (g : Nat) (es : Array MapEntry) (c a : Nat) : ∀ (vs : List Value) (o : Nat) (w : World), w.heap[a]? = some (.map es c) → (w.setCells g o vs).heap[a]? = some (.map es c)
 | [], _, _, h => h
 | v :: r, o, w, h => setCells_map g es c a r (o + 1) _ (by
  simp only [World.setCell, Array.getElem?_modify, h]
  split <;> rfl)
theorem stays_setCells (w : World) (g o : Nat) (vs : List Value) : Stays w (w.setCells g o vs) := ⟨fun x hx => ⟨World.isSome_setCells g vs o w x hx, World.frozen?_setCells g vs o w x⟩, fun a es c h => ⟨es, c, setCells_map g es c a vs o w h, fun i e h => ⟨e, h, rfl, rfl⟩⟩⟩
theorem setCells_keep (w : World) (g : Nat) : ∀ (vs : List Value) (o : Nat) (w : World), (w.setCells g o vs).os = w.os ∧ (w.setCells g o vs).tape = w.tape ∧ (w.setCells g o vs).output = w.output ∧ (w.setCells g o vs).heap.size = w.heap.size ∧ ∀ k, k ≠ g → (w.setCells g o vs).heap[k]? = w.heap[k]?
 | [], o, w => ⟨rfl, rfl, rfl, rfl, fun _ _ => rfl⟩
 | v :: r, o, w => by
  obtain ⟨h1, h2, h3, h4, h5⟩ := setCells_keep w g r (o + 1) (w.setCell ⟨g, o, none⟩ v)
  refine ⟨h1, h2, h3, by rw [World.setCells, h4]; simp [World.setCell], fun k hk => ?_⟩
  rw [World.setCells, h5 k hk]
  exact RowKit.Below.heap_setCell w ⟨g, o, none⟩ v k hk
theorem setSeg_get : ∀ (vs : List C) (row : List C) (j q : Nat) (x : C), (setSeg row j vs)[q]? = some x → (q < j ∨ j + vs.length ≤ q) ∧ row[q]? = some x ∨ ∃ r, q = j + r ∧ vs[r]? = some x
 | [], row, j, q, x, h => by
  refine .inl ⟨by simp; omega, h⟩
 | c :: vs, row, j, q, x, h => by
  simp only [setSeg] at h
  rcases setSeg_get vs (row.set j c) (j + 1) q x h with ⟨h1, h2⟩ | ⟨r, h1, h2⟩
  ·rw [List.getElem?_set] at h2
   by_cases hj : j = q
   ·subst hj
    by_cases hl : j < row.length
    ·simp only [hl, if_true, Option.some.injEq] at h2
     exact .inr ⟨0, by omega, by simp [h2]⟩
    ·simp [hl] at h2
   ·simp only [hj, if_false] at h2
    exact .inl ⟨by simp; omega, h2⟩
  ·exact .inr ⟨r + 1, by omega, by simpa using h2⟩
theorem setSeg_len : ∀ (vs : List C) (row : List C) (j : Nat), (setSeg row j vs).length = row.length
 | [], _, _ => rfl
 | c :: vs, row, j => by simp [setSeg, setSeg_len vs]
theorem setG_map : ∀ (gs : List G) (row : List G) (j : Nat), (setG row j gs).map C.g = setSeg (row.map C.g) j (gs.map C.g)
 | [], _, _ => rfl
 | c :: gs, row, j => by simp [setG, setSeg, setG_map gs, List.map_set]
variable {wr : Option (List Nat × Nat)} {er : Bool} {o : Oper} {k : A → Mem → Tree} {Q : Exit → Act → World → Prop}
/-- The cells of element i, from place j on, are others. -/
theorem store_core {t : TypeId} {X Y : Operand} {n b i j a_ base : Nat} {blk blk' : Blk} {row : List C} {v : V1} (hop : o.op = .store t X Y) (hsz : size? P t = some n) (hA : At E m w ts a) (hb : m[b]? = some blk) (hl : blk.live) (hl' : blk'.live) (hρ : E.ρ b = some (a_, base)) (hW : okW wr b = true)
  (hX : a.eval X = .pointer (some (at_ a_ (base + (i * blk.es + j))))) (hv : V1Rep E m w v (a.eval Y)) (hn : v ≠ .c .any) (hvn : v.cells.length = n) (hi : blk.rows[i]? = some row) (hj : j + n ≤ row.length)
  (hes : blk'.es = blk.es) (hrows : blk'.rows = blk.rows.set i (setSeg row j v.cells)) (h : Holds P I p (k (.one (.c .any)) (m.set b blk'))) : LRes P I p E m w wr a o k Q := by
 obtain ⟨c1, c2⟩ := cells_rep hv hn
 rcases hA.sat.rep b blk hb hl with ⟨e, _⟩ | ⟨a', base', e, g1, g2, g3⟩
 ·rw [e] at hρ; cases hρ
 rw [e] at hρ
 cases hρ
 have hrow := g3 i row hi
 have hilt : i < blk.rows.length := (List.getElem?_eq_some_iff.1 hi).1
 have hsn : (a.eval Y).cells.size = n := by rw [c1.1, hvn]
 have hmul : (i + 1) * blk.es ≤ blk.rows.length * blk.es := Nat.mul_le_mul_right _ hilt
 rw [Nat.add_mul] at hmul
 have hth : ∀ q, q < n → (w.cell? ⟨a_, base + (i * blk.es + j) + q, none⟩).isSome = true ∧ w.frozen? ⟨a_, base + (i * blk.es + j) + q, none⟩ = false := fun q hq => by
  have := g1 (i * blk.es + j + q) (by have := hrow.1; omega)
  rw [Nat.add_assoc]
  exact this
 intro K hK
 have hrun : (execOp a.eval o).run P w = .ok .skip (w.setCells a_ (base + (i * blk.es + j)) (a.eval Y).cells.toList) := by
  have hst := run_storeCells_cells (P := P) a_ (base + (i * blk.es + j)) (a.eval Y).cells.toList 0 w (fun q hq => by simpa using (hth q (by simpa [hsn] using hq)).1) (fun q hq => by simpa using (hth q (by simpa [hsn] using hq)).2) c2
  simp only [Nat.add_zero] at hst
  simp only [execOp, hop, hX, Instr.storeAt, Instr.sureAddr, Sem.run_bind, Sem.run_pure, Result.andThen_ok, storeVar, size_run hsz, hsn, ne_eq, not_true_eq_false, if_false]
  unfold at_
  rw [hst]
  rfl
 obtain ⟨k1, k2, k3, k4, k5⟩ := setCells_keep w a_ (a.eval Y).cells.toList (base + (i * blk.es + j)) w
 have hg := write_grow (w' := w.setCells a_ (base + (i * blk.es + j)) (a.eval Y).cells.toList) (Wt := fun b => okW wr b = true) (hmp := fun _ _ e => by subst e; have h1 := congrArg List.length hrows; rw [List.length_set] at h1; have h2 : (0 : Nat) = blk.rows.length := h1; omega) hA.sat hb hl hl' e hW k1 k2 k3 k4 k5 (stays_setCells _ _ _ _) (by rw [hrows]; simp) hes (fun i' row' hi' => by
  rw [hrows, List.getElem?_set] at hi'
  by_cases hii : i = i'
  ·subst hii
   simp only [hilt, if_true, Option.some.injEq] at hi'
   subst hi'
   refine ⟨by rw [setSeg_len, hes]; exact hrow.1, fun q x hq => ?_⟩
   rw [hes]
   rcases setSeg_get _ _ _ _ _ hq with ⟨h1, h2⟩ | ⟨r, rfl, h2⟩
   ·obtain ⟨u, q1, q2⟩ := hrow.2 q x h2
    refine ⟨u, ?_, q2⟩
    rw [World.cell?_setCells_out a_ _ _ w _ (fun _ _ => ?_)]
    ·exact q1
    ·simp only [at_, Array.length_toList, hsn]
     rw [hvn] at h1
     omega
   ·obtain ⟨u, q1, q2⟩ := c1.2 r x h2
    obtain ⟨hrl, hru⟩ := Array.getElem?_eq_some_iff.1 q1
    have := World.cell?_setCells_in a_ (a.eval Y).cells.toList (base + (i * blk.es + j)) w (fun q hq => (hth q (by simpa [hsn] using hq)).1) r (by simpa using hrl)
    refine ⟨u, ?_, q2⟩
    rw [show base + (i * blk.es + (j + r)) = base + (i * blk.es + j) + r by omega]
    unfold at_
    rw [this]
    simp [hru]
  ·simp only [hii, if_false] at hi'
   obtain ⟨h1, h2⟩ := g3 i' row' hi'
   refine ⟨by rw [hes]; exact h1, fun q x hq => ?_⟩
   rw [hes]
   obtain ⟨u, q1, q2⟩ := h2 q x hq
   refine ⟨u, ?_, q2⟩
   rw [World.cell?_setCells_out a_ _ _ w _ (fun _ _ => ?_)]
   ·exact q1
   ·simp only [at_, Array.length_toList, hsn]
    have hql : q < blk.es := by rw [← h1]; exact (List.getElem?_eq_some_iff.1 hq).1
    have hjl := hrow.1
    rcases Nat.lt_or_gt_of_ne hii with hlt | hlt
    ·have := Nat.mul_le_mul_right blk.es (show i + 1 ≤ i' from hlt)
     rw [Nat.add_mul] at this
     omega
    ·have := Nat.mul_le_mul_right blk.es (show i' + 1 ≤ i from hlt)
     rw [Nat.add_mul] at this
     omega)
 unfold Oper.wp
 rw [hrun]
 exact hK _ _ _ _ _ h hg.1 hg.2 (.inl rfl)
theorem stq_sim {t : TypeId} {X Y : Operand} {n b es j : Nat} {i : NN} {v : V1} (hI : I = ints) (hop : o.op = .store t X Y) (hsz : size? P t = some n) (hA : At E m w ts a) (hc : C.ptr b i es j = .any ∨ CRep E m w (.ptr b i es j) (a.eval X)) (hv : V1Rep E m w v (a.eval Y)) (hn : v ≠ .c .any) (hW : okW wr b = true)
  (h : Holds P I p (stq I n (.ptr b i es j) v m fun m => k (.one (.c .any)) m)) : LRes P I p E m w wr a o k Q := by
 unfold stq at h
 split at h
 ·rename_i b' i' es' j' hlen heq
  cases heq
  have hvn : v.cells.length = n := by simpa using hlen
  rcases hc with hc | ⟨hb, a_, base, h1, h2⟩
  ·cases hc
  cases hm : m[b]? with
  | none => simp only [hm] at h; exact (holds_fail h).elim
  | some blk =>
   simp only [hm] at h
   cases blk with
   | dead => exact (holds_fail h).elim
   | mp _ _ => exact (holds_fail h).elim
   | lit es' rows =>
    cases i with
    | sym i => exact (holds_fail h).elim
    | lit i =>
     simp only at h
     split at h
     ·rename_i i'' heq he
      cases heq
      obtain rfl : es = es' := by simpa using he
      cases hr : rows[i]? with
      | none => simp only [hr] at h; exact (holds_fail h).elim
      | some row =>
       simp only [hr] at h
       split at h
       ·rename_i hj
        exact store_core hop hsz hA hm trivial (blk' := .lit es (rows.set i (setSeg row j v.cells))) trivial h1 hW h2 hv hn hvn hr (of_decide_eq_true hj) rfl rfl h
       ·exact (holds_fail h).elim
     ·exact (holds_fail h).elim
   | sym es' l =>
    simp only at h
    split at h
    ·rename_i gs he hgs
     obtain rfl : es = es' := by simpa using he
     cases h with
     | nth r hr h =>
     dsimp only at h
     split at h
     ·rename_i hj
      subst hI
      have hg := grounds_map hgs
      have hsy : v.sy.cells = (gs.map G.sy).map C.g := by
       have h3 : v.sy.cells = v.cells.map C.sy := by cases v <;> rfl
       rw [h3, ← hg, List.map_map, List.map_map]
       refine List.map_congr_left fun x _ => ?_
       cases x <;> rfl
      have hvn' : v.sy.cells.length = n := by rw [hsy, ← hvn, ← hg]; simp
      refine store_core hop hsz hA hm trivial (blk' := .sym es (l.set i.val (setG r j (gs.map G.sy)))) trivial h1 hW h2 (V1_sy hv) (fun e => hn (by cases v with | c x => (cases x with | g x => (cases x <;> cases e) | _ => (first | rfl | cases e)) | agg l => cases e)) hvn' (row := r.map C.g) (by simp [Blk.rows, hr]) (by simpa using of_decide_eq_true hj) rfl ?_ h
      simp only [Blk.rows, List.map_set, setG_map, hsy]
     ·exact (holds_fail h).elim
    ·exact (holds_fail h).elim
 ·exact (holds_fail h).elim
end
end Go.Proofs.Ytofdnnjkfpomcaa.E
