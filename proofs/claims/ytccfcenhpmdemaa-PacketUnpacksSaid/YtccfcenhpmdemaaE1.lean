/- The evaluator: compact code, abstract values, a memory of literal blocks; it gives a tree whose nodes are what a proof decides. -/
import GoSem.Core.Program
import GoSem.Core.Layout
import Derived.Laws.BytesArg
namespace Go.Proofs.Ytccfcenhpmdemaa.E
open Go

/-- A number: known, or a letter. -/
inductive Z where
  | lit (n : Int)
  | sym (n : Int)
inductive BB where
  | lit (b : Bool)
  | sym (b : Bool)
inductive NN where
  | lit (n : Nat)
  | sym (n : Nat)
def Z.val : Z → Int
  | .lit n => n
  | .sym n => n
def BB.val : BB → Bool
  | .lit n => n
  | .sym n => n
def NN.val : NN → Nat
  | .lit n => n
  | .sym n => n

/-- What a cell holds for good. -/
inductive G where
  | bool (b : BB)
  | int (k : IntKind) (z : Z)
  | str (s : ByteArray)
  | nilp
  | nil
  | rows (es : Nat) (l : List (List G))

/-- What a cell holds: ids of blocks are places in the memory's list. -/
inductive C where
  | any
  | g (x : G)
  | bor (es : Nat) (l : List (List G))
  | gp (row : List G) (j : Nat)
  | ptr (b : Nat) (i : NN) (es j : Nat)
  | row (b : Nat) (es : Nat) (cap : Option NN)
  | sl (b : Nat) (i : NN) (es : Nat) (n : NN) (cap : Option NN)
  | fn (f : FuncId) (caps : List (Nat × Nat × Nat))
  | map (b : Nat)
  | stamp (b : Nat) (z : Z)

inductive V1 where
  | c (x : C)
  | agg (l : List C)
inductive A where
  | one (v : V1)
  | tup (l : List V1)

inductive Blk where
  | dead
  | lit (es : Nat) (rows : List (List C))
  | sym (es : Nat) (l : List (List G))
  | mp (ag : Option Nat) (l : List (List G))
abbrev Mem := List Blk

/-- Operations on letters: a variable in the proofs. -/
structure Ints where
  bin : BinOp → IntKind → Int → Int → Int
  cmp : BinOp → Int → Int → Bool
  conv : IntKind → Int → Int
  neg : IntKind → Int → Int
  cpl : IntKind → Int → Int
  mx : Int → Int → Int
  mn : Int → Int → Int
  not : Bool → Bool
  and : Bool → Bool → Bool
  beq : Bool → Bool → Bool
  ofNat : Nat → Int
  add : Nat → Nat → Nat
  sub : Nat → Nat → Nat
  len : List (List G) → Nat
  app : List (List G) → List (List G) → List (List G)
  set : List (List G) → Nat → List G → List (List G)
  ext : List (List G) → Nat → Nat → List (List G)
  rep : Nat → List G → List (List G)
  cpy : List (List G) → Nat → Nat → List (List G) → List (List G)
  b2s : List (List G) → ByteArray
  seq : ByteArray → ByteArray → Bool
  mset : List (List G) → Int → List G → List (List G)
  pair : Int → Int → Int

/-! ### Compact code -/
inductive Opd where
  | tmp (t : Nat)
  | cst (x : C)
inductive EqK where
  | num
  | bool
  | ptr
  | str
  | agg (l : List Bool)
inductive XOp where
  | move (x : Opd)
  | pick (c a b : Opd)
  | box (x : Opd)
  | alloc (zero : List C)
  | build (zero : List C) (parts : List (Nat × Nat × Opd))
  | buildSlice (es : Nat) (zero : List C) (len : Nat) (parts : List (Nat × Opd))
  | load (ag : Option Nat) (x : Opd)
  | store (size : Nat) (x y : Opd)
  | bin (op : BinOp) (x y : Opd)
  | div (op : BinOp) (x y : Opd)
  | shift (op : BinOp) (x y : Opd)
  | cmp (op : BinOp) (x y : Opd)
  | eq (neg : Bool) (k : EqK) (x y : Opd)
  | isNil (neg : Bool) (x : Opd)
  | not (x : Opd)
  | neg (x : Opd)
  | cpl (x : Opd)
  | conv (k : IntKind) (x : Opd)
  | fieldAddr (off : Nat) (x : Opd)
  | field (off : Nat) (ag : Option Nat) (x : Opd)
  | indexAddr (arr : Option Nat) (es : Nat) (x i : Opd)
  | index (n es : Nat) (ag : Option Nat) (x i : Opd)
  | slice (es : Nat) (x : Opd) (lo hi : Option Opd)
  | makeSlice (es bytes : Nat) (zero : List C) (len : Opd) (cap : Option Opd)
  | extract (x : Opd) (i : Nat)
  | len (x : Opd)
  | cap (x : Opd)
  | mnmx (mx : Bool) (x : Opd) (l : List Opd)
  | append (es bytes : Nat) (zero : List C) (x y : Opd)
  | call (f : FuncId) (args : List Opd)
  | nilCheck (x : Opd)
  | dead
  | copy (es : Nat) (x y : Opd)
  | b2s (x : Opd)
  | s2b (l : List Nat)
  | appendZ (es bytes : Nat) (zero : List C) (x y : Opd)
  | makeMap (ag : Option Nat)
  | lookup (ok : Bool) (ag : Option Nat) (zero : List C) (x i : Opd)
  | mapUpdate (ag : Option Nat) (x i v : Opd)
  | mapEntry (ag : Option Nat) (zero : List C) (x i : Opd)
  | entryStore (ag : Option Nat) (x s v : Opd)
  | lenMap (x : Opd)
  | makeFunc (f : FuncId) (caps : List Opd)
  | callV (x : Opd) (args : List Opd)
structure XO where
  dst : Option Nat
  guard : Option (Nat × Bool)
  op : XOp
/-- A region that draws its order: an order, or two. -/
inductive DX where
  | nil
  | op (i : Nat) (er : Bool) (o : XO) (r : DX)
  | alt (a b : DX)
inductive X where
  | skip
  | ops (l : List XO)
  | drawn (id : Nat) (l : DX)
  | seq (a b : X)
  | cond (c : Opd) (t e : X)
  | block (id : Nat) (x : X)
  | loop (x : X)
  | exit (id : Nat)
  | ret
  | join (x : X)
  | mloop (pre : List XO) (mp : Opd) (it t1 tok t2 : Nat) (x : X)
  | rfun (c : Code)
inductive XRes where
  | tmp (t : Nat)
  | cell (t : Nat) (ag : Option Nat)
structure XF where
  ntmps : Nat
  res : List XRes
  body : X

/-! ### The evaluator -/
inductive Ex where
  | normal
  | exit (id : Nat)
  | ret

/-- What a proof decides. -/
inductive Tree : Type where
  | fail
  | goal (p : Prop)
  | br (b : Bool) (t e : Unit → Tree)
  | idx (z : Int) (n : Nat) (k : Nat → Tree)
  | rng (lo hi : Option Int) (n : Nat) (k : Nat → Nat → Tree)
  | nth (l : List (List G)) (i : Nat) (k : List G → Tree)
  | isnil (l : List (List G)) (t e : Unit → Tree)
  | nz (z : Int) (k : Unit → Tree)
  | nonneg (z : Int) (k : Unit → Tree)
  | size (z : Int) (bytes : Nat) (k : Nat → Tree)
  | most (n bytes : Nat) (k : Unit → Tree)
  | call (f : FuncId) (args : List V1) (m : Mem) (wr : Option (List Nat × Nat)) (k : A → Mem → Tree)
  | drawn (m : Mem) (k : List Nat → Tree)
  | both (t e : Unit → Tree)
  | fnok (f : FuncId) (k : Unit → Tree)
  | bytes (l : List (List G)) (k : Unit → Tree)
  | find (l : List (List G)) (z : Int) (k : Option (List G) → Tree)
  | loop (x : X) (ts : List A) (m : Mem) (k : Ex → List A → Mem → Tree)
  | join (x : X) (ts : List A) (m : Mem) (k : Ex → List A → Mem → Tree)
  | mloop (x : X) (b : Nat) (ag : Option Nat) (l : List (List G)) (it t1 tok t2 : Nat) (ts : List A) (m : Mem) (k : List A → Mem → Tree)
  | rfun (c : Code) (ts : List A) (m : Mem) (k : List A → Mem → Tree)

def rBin (op : BinOp) (k : IntKind) (x y : Int) : Int :=
  match op with
  | .add => k.wrap (x + y)
  | .sub => k.wrap (x - y)
  | .mul => k.wrap (x * y)
  | .quo => k.wrap (x.tdiv y)
  | .rem => x.tmod y
  | .and => k.wrap (BitVec.ofInt k.bits x &&& BitVec.ofInt k.bits y).toNat
  | .or => k.wrap (BitVec.ofInt k.bits x ||| BitVec.ofInt k.bits y).toNat
  | .xor => k.wrap (BitVec.ofInt k.bits x ^^^ BitVec.ofInt k.bits y).toNat
  | .andNot => k.wrap (BitVec.ofInt k.bits x &&& ~~~ BitVec.ofInt k.bits y).toNat
  | .shl => k.wrap (x * 2 ^ (min y.toNat k.bits))
  | .shr => x.fdiv (2 ^ (min y.toNat k.bits))
  | _ => 0
def rCmp (op : BinOp) (x y : Int) : Bool :=
  match op with
  | .eql => x == y
  | .neq => x != y
  | .lss => decide (x < y)
  | .leq => decide (x ≤ y)
  | .gtr => decide (x > y)
  | .geq => decide (x ≥ y)
  | _ => false
def rNeg (k : IntKind) (x : Int) : Int := k.wrap (0 - x)
def rCpl (k : IntKind) (x : Int) : Int := k.wrap (BitVec.ofInt k.bits (if k.signed then -1 else k.max) ^^^ BitVec.ofInt k.bits x).toNat
/-- The row of a key. -/
def rowKey : List G → Option Int
  | .int _ z :: _ => some z.val
  | _ => none
def mfind (l : List (List G)) (z : Int) : Option (List G) := l.find? fun r => rowKey r == some z
def mset : List (List G) → Int → List G → List (List G)
  | [], _, row => [row]
  | r :: l, z, row => if rowKey r == some z then row :: l else r :: mset l z row
def gNum : List G → Int
  | .int _ z :: _ => z.val
  | _ => 0
/-- Two numbers told as one: a map's keys of two numbers. -/
def zNat (a : Int) : Nat := if 0 ≤ a then 2 * a.toNat else 2 * (-a).toNat + 1
def pairZ (a b : Int) : Int := ((2 ^ zNat a * (2 * zNat b + 1) : Nat) : Int)
/-- How a map's values are read: `some 0` tells of keys of two numbers. -/
def vag : Option Nat → Option Nat
  | some 0 => none
  | x => x
def ints : Ints where
  bin := rBin
  cmp := rCmp
  conv k x := k.wrap x
  neg := rNeg
  cpl := rCpl
  mx x y := if y > x then y else x
  mn x y := if y < x then y else x
  not b := !b
  and a b := a && b
  beq a b := a == b
  ofNat n := (n : Int)
  add a b := a + b
  sub a b := a - b
  len l := l.length
  app a b := a ++ b
  set l i r := l.set i r
  ext l a b := (l.take b).drop a
  rep n r := List.replicate n r
  cpy l i n s := l.take i ++ s.take n ++ l.drop (i + min n s.length)
  b2s l := strOfNums (l.map gNum)
  seq a b := a.toList == b.toList
  mset := mset
  pair := pairZ

section
variable (I : Ints)
def zBin (op : BinOp) (k : IntKind) : Z → Z → Z
  | .lit a, .lit b => .lit (rBin op k a b)
  | x, y => .sym (I.bin op k x.val y.val)
def zCmp (op : BinOp) : Z → Z → BB
  | .lit a, .lit b => .lit (rCmp op a b)
  | x, y => .sym (I.cmp op x.val y.val)
def zConv (k : IntKind) : Z → Z
  | .lit a => .lit (k.wrap a)
  | .sym a => .sym (I.conv k a)
def zNeg (k : IntKind) : Z → Z
  | .lit a => .lit (rNeg k a)
  | .sym a => .sym (I.neg k a)
def zCpl (k : IntKind) : Z → Z
  | .lit a => .lit (rCpl k a)
  | .sym a => .sym (I.cpl k a)
def zMx (mx : Bool) : Z → Z → Z
  | .lit a, .lit b => .lit (match mx with | true => (if b > a then b else a) | false => (if b < a then b else a))
  | x, y => .sym (match mx with | true => I.mx x.val y.val | false => I.mn x.val y.val)
def bNot : BB → BB
  | .lit b => .lit (!b)
  | .sym b => .sym (I.not b)
def bAnd : BB → BB → BB
  | .lit false, _ => .lit false
  | .lit true, y => y
  | _, .lit false => .lit false
  | x, .lit true => x
  | .sym a, .sym b => .sym (I.and a b)
def bEq : BB → BB → BB
  | .lit a, .lit b => .lit (a == b)
  | x, y => .sym (I.beq x.val y.val)
def nAdd : NN → NN → NN
  | .lit a, .lit b => .lit (a + b)
  | .lit 0, y => y
  | x, .lit 0 => x
  | x, y => .sym (I.add x.val y.val)
def nSub : NN → NN → NN
  | .lit a, .lit b => .lit (a - b)
  | x, .lit 0 => x
  | x, y => .sym (I.sub x.val y.val)
def zOfN : NN → Z
  | .lit n => .lit (Int.ofNat n)
  | .sym n => .sym (I.ofNat n)

def V1.cells : V1 → List C
  | .c x => [x]
  | .agg l => l
def getT (ts : List A) (t : Nat) : A := ts.getD t (.one (.c .any))
def Opd.ev (ts : List A) : Opd → A
  | .tmp t => getT ts t
  | .cst x => .one (.c x)
def ev1 (ts : List A) (x : Opd) (k : V1 → Tree) : Tree :=
  match x.ev ts with
  | .one v => k v
  | .tup _ => .fail
def evC (ts : List A) (x : Opd) (k : C → Tree) : Tree :=
  match x.ev ts with
  | .one (.c v) => k v
  | _ => .fail
def evZ (ts : List A) (x : Opd) (k : IntKind → Z → Tree) : Tree :=
  match x.ev ts with
  | .one (.c (.g (.int i z))) => k i z
  | _ => .fail
def evZ? (ts : List A) (x : Option Opd) (k : Option Z → Tree) : Tree :=
  match x with
  | none => k none
  | some x => evZ ts x fun _ z => k (some z)
def evB (ts : List A) (x : Opd) (k : Bool → Tree) : Tree :=
  match x.ev ts with
  | .one (.c (.g (.bool (.lit b)))) => k b
  | .one (.c (.g (.bool (.sym b)))) => .br b (fun _ => k true) (fun _ => k false)
  | _ => .fail
/-- What may be stored: a letter for a whole value may not. -/
def evV (ts : List A) (x : Opd) (k : V1 → Tree) : Tree :=
  match x.ev ts with
  | .one (.c .any) => .fail
  | .one v => k v
  | .tup _ => .fail
def ev1s (ts : List A) : List Opd → (List V1 → Tree) → Tree
  | [], k => k []
  | x :: r, k => ev1 ts x fun v => ev1s ts r fun vs => k (v :: vs)
def evZs (ts : List A) : List Opd → (List Z → Tree) → Tree
  | [], k => k []
  | x :: r, k => evZ ts x fun _ v => evZs ts r fun vs => k (v :: vs)

/-- What a function value has with it: cells of blocks. -/
def capsOf : List V1 → Option (List (Nat × Nat × Nat))
  | [] => some []
  | .c (.ptr b (.lit 0) es j) :: r => match capsOf r with
    | some l => some ((b, es, j) :: l)
    | none => none
  | _ :: _ => none
def capsIn : List (Nat × Nat × Nat) → List V1
  | [] => []
  | (b, es, j) :: r => .c (.ptr b (.lit 0) es j) :: capsIn r
/-- A place in a literal list. -/
def zIdx (lit : Bool) (z : Z) (n : NN) (k : NN → Tree) : Tree :=
  match z, n with
  | .lit z, .lit n => match decide (0 ≤ z), decide (z < n) with
    | true, true => k (.lit z.toNat)
    | _, _ => .fail
  | z, n => .idx z.val n.val fun i => k (match lit with | true => .lit i | false => .sym i)
def zRng (lo hi : Option Z) (n : NN) (k : NN → NN → Tree) : Tree :=
  match lo, hi, n with
  | none, none, n => k (.lit 0) n
  | none, some (.lit h), .lit n => match decide (0 ≤ h), decide (h ≤ n) with
    | true, true => k (.lit 0) (.lit h.toNat)
    | _, _ => .fail
  | some (.lit l), none, .lit n => match decide (0 ≤ l), decide (l ≤ n) with
    | true, true => k (.lit l.toNat) (.lit n)
    | _, _ => .fail
  | some (.lit l), some (.lit h), .lit n => match decide (0 ≤ l), decide (l ≤ h), decide (h ≤ n) with
    | true, true, true => k (.lit l.toNat) (.lit h.toNat)
    | _, _, _ => .fail
  | lo, hi, n => .rng (lo.map (·.val)) (hi.map (·.val)) n.val fun l h => k (match lo with | some (.lit l) => .lit l.toNat | none => .lit 0 | _ => .sym l) (match hi with | some (.lit h) => .lit h.toNat | none => n | _ => .sym h)

def Blk.es : Blk → Nat
  | .dead => 0
  | .lit es _ => es
  | .sym es _ => es
  | .mp _ _ => 0
def Blk.len : Blk → NN
  | .dead => .lit 0
  | .mp _ _ => .lit 0
  | .lit _ r => .lit r.length
  | .sym _ l => .sym (I.len l)
def seg (row : List C) (j : Nat) (ag : Option Nat) (k : V1 → Tree) : Tree :=
  match ag with
  | none => match row[j]? with
    | some c => k (.c c)
    | none => .fail
  | some n => match decide (j + n ≤ row.length) with
    | true => k (.agg ((row.drop j).take n))
    | false => .fail
def grounds : List C → Option (List G)
  | [] => some []
  | .g x :: r => match grounds r with
    | some l => some (x :: l)
    | none => none
  | _ :: _ => none
def groundRows : List (List C) → Option (List (List G))
  | [] => some []
  | x :: r => match grounds x, groundRows r with
    | some x, some l => some (x :: l)
    | _, _ => none
def G.sy : G → G
  | .int k z => .int k (.sym z.val)
  | .bool b => .bool (.sym b.val)
  | x => x
/-- Rows that are known cell by cell and are many are told by their place. -/
def manyLit (rows : List (List C)) : Bool := !(decide (5 ≤ rows.length) && (groundRows rows).isSome)
/-- A load. -/
def ld (ag : Option Nat) (x : C) (m : Mem) (k : V1 → Tree) : Tree :=
  match x with
  | .gp row j => seg (row.map .g) j ag k
  | .ptr b i es j => match m[b]? with
    | some (.lit es' rows) => match i, es == es' with
      | .lit i, true => match rows[i]? with
        | some row => seg row j ag k
        | none => .fail
      | .sym i, true => match groundRows rows with
        | some l => .nth l i fun row => seg (row.map fun x => .g x.sy) j ag k
        | none => .fail
      | _, _ => .fail
    | some (.sym es' l) => match es == es' with
      | true => .nth l i.val fun row => seg (row.map .g) j ag k
      | false => .fail
    | _ => .fail
  | _ => .fail
def setSeg (row : List C) (j : Nat) : List C → List C
  | [] => row
  | c :: r => setSeg (row.set j c) (j + 1) r
def setG (row : List G) (j : Nat) : List G → List G
  | [] => row
  | c :: r => setG (row.set j c) (j + 1) r
/-- A store. -/
def stq (size : Nat) (x : C) (v : V1) (m : Mem) (k : Mem → Tree) : Tree :=
  match v.cells.length == size, x with
  | true, .ptr b i es j => match m[b]? with
    | some (.lit es' rows) => match i, es == es' with
      | .lit i, true => match rows[i]? with
        | some row => match decide (j + size ≤ row.length) with
          | true => k (m.set b (.lit es (rows.set i (setSeg row j v.cells))))
          | false => .fail
        | none => .fail
      | _, _ => .fail
    | some (.sym es' l) => match es == es', grounds v.cells with
      | true, some gs => .nth l i.val fun row => match decide (j + size ≤ row.length) with
        | true => k (m.set b (.sym es (I.set l i.val (setG row j (gs.map G.sy)))))
        | false => .fail
      | _, _ => .fail
    | _ => .fail
  | _, _ => .fail
def places (zero : List C) : List (Nat × Nat × V1) → Option (List C)
  | [] => some zero
  | (off, size, v) :: r => match v.cells.length == size, decide (off + size ≤ zero.length) with
    | true, true => places (setSeg zero off v.cells) r
    | _, _ => none
def evParts (ts : List A) : List (Nat × Nat × Opd) → (List (Nat × Nat × V1) → Tree) → Tree
  | [], k => k []
  | (o, s, x) :: r, k => evV ts x fun v => evParts ts r fun vs => k ((o, s, v) :: vs)
/-- Cell by cell: numbers (false), bools (true). -/
def eqCells : List Bool → List C → List C → Option BB
  | [], [], [] => some (.lit true)
  | false :: ks, .g (.int i x) :: r, .g (.int j y) :: s => match decide (i = j), eqCells ks r s with
    | true, some b => some (bAnd I (zCmp I .eql x y) b)
    | _, _ => none
  | true :: ks, .g (.bool x) :: r, .g (.bool y) :: s => match eqCells ks r s with
    | some b => some (bAnd I (bEq I x y) b)
    | none => none
  | _, _, _ => none
def eqV (kd : EqK) (x y : V1) : Option BB :=
  match kd, x, y with
  | .bool, .c (.g (.bool a)), .c (.g (.bool b)) => some (bEq I a b)
  | .ptr, .c (.g .nilp), .c (.g .nilp) => some (.lit true)
  | .ptr, .c (.ptr _ _ _ _), .c (.g .nilp) => some (.lit false)
  | .ptr, .c (.g .nilp), .c (.ptr _ _ _ _) => some (.lit false)
  | .str, .c (.g (.str a)), .c (.g (.str b)) => some (.sym (I.seq a b))
  | .agg ks, .agg l, .agg r => eqCells I ks l r
  | _, _, _ => none
/-- The elements of what may be read, all of them ground. -/
def rowsOf0 (es : Nat) (x : C) (m : Mem) : Option (List (List G)) :=
  match x with
  | .g .nil => some []
  | .g (.rows es' l) => match es == es' with
    | true => some l
    | false => none
  | .bor es' l => match es == es' with
    | true => some l
    | false => none
  | .row b es' _ => match es == es', m[b]? with
    | true, some (.sym _ l) => some l
    | true, some (.lit _ rows) => groundRows rows
    | _, _ => none
  | .sl b i es' n _ => match es == es', m[b]? with
    | true, some (.sym _ l) => some (I.ext l i.val (nAdd I i n).val)
    | true, some (.lit _ rows) => match i, n with
      | .lit i, .lit n => groundRows ((rows.take (i + n)).drop i)
      | _, _ => none
    | _, _ => none
  | _ => none
def baseOf : C → Option Nat
  | .row b _ _ => some b
  | .sl b _ _ _ _ => some b
  | _ => none
def rowsSy (l : List (List G)) : List (List G) := l.map fun r => r.map G.sy
/-- Known numbers of a block that is known row by row are letters in a list. -/
def rowsOf (es : Nat) (x : C) (m : Mem) : Option (List (List G)) :=
  match rowsOf0 I es x m, baseOf x with
  | some l, none => some l
  | some l, some b => match m[b]? with
    | some (.lit _ _) => some (rowsSy l)
    | _ => some l
  | none, _ => none
/-- Cells that are frozen: rows whose blocks have other names no more. -/
def frzC : List C → Mem → (List G → Mem → Tree) → Tree
  | [], m, k => k [] m
  | .g x :: r, m, k => frzC r m fun gs m => k (x :: gs) m
  | .row b es c :: r, m, k => match rowsOf I es (.row b es c) m with
    | some l => frzC r (m.set b .dead) fun gs m => k (.rows es l :: gs) m
    | none => .fail
  | _ :: _, _, _ => .fail
def reV (v : V1) (gs : List G) : V1 := match v with
  | .c _ => match gs with
    | [g] => .c (.g g)
    | _ => .c .any
  | .agg _ => .agg (gs.map C.g)
def frzV (v : V1) (m : Mem) (k : V1 → Mem → Tree) : Tree := match grounds v.cells with
  | some _ => k v m
  | none => frzC I v.cells m fun gs m => k (reV v gs) m
/-- A row that was just laid, of known length. -/
def litRow (v : V1) (m : Mem) : Bool := match v with
  | .c (.row b es c) => match m[b]? with
    | some (.lit _ _) => (rowsOf I es (.row b es c) m).isSome
    | _ => false
  | _ => false
def frzP : List (Nat × Nat × V1) → Mem → (List (Nat × Nat × V1) → Mem → Tree) → Tree
  | [], m, k => k [] m
  | (o, s, v) :: r, m, k => match litRow I v m with
    | true => frzV I v m fun v m => frzP r m fun vs m => k ((o, s, v) :: vs) m
    | false => frzP r m fun vs m => k ((o, s, v) :: vs) m
/-- Is what is stored there to be frozen? -/
def fzWant (b : Nat) (v : V1) (m : Mem) : Bool := match m[b]? with
  | some (.sym _ _) => true
  | some (.lit _ _) => v.cells.any (fun x => litRow I (.c x) m) && v.cells.all (fun x => litRow I (.c x) m || match x with | .g _ => true | _ => false)
  | _ => false
def lenOf (x : C) (m : Mem) : Option NN :=
  match x with
  | .g .nil => some (.lit 0)
  | .g (.rows _ l) => some (.sym (I.len l))
  | .bor _ l => some (.sym (I.len l))
  | .row b _ _ => match m[b]? with
    | some .dead => none
    | some blk => some (blk.len I)
    | none => none
  | .sl b _ _ n _ => match m[b]? with
    | some .dead => none
    | some _ => some n
    | none => none
  | _ => none
def isNilRow : C → Bool
  | .g .nil => true
  | _ => false

def okW (wr : Option (List Nat × Nat)) (b : Nat) : Bool := match wr with
  | none => true
  | some (l, n) => l.contains b || decide (n ≤ b)
def okR (wr : Option (List Nat × Nat)) (x : C) : Bool := match wr, x with
  | some (l, n), .ptr b _ _ _ => !l.contains b && decide (b < n)
  | _, _ => true
/-- Elements laid over others; how many. -/
def cpy (es : Nat) (wr : Option (List Nat × Nat)) (src : List (List G)) (a : C) (m : Mem) (k : Int → Mem → Tree) : Tree :=
  match a with
  | .row b es' _ => match es == es', okW wr b, m[b]? with
    | true, true, some (.sym _ l) => k (I.mn (I.ofNat (I.len l)) (I.ofNat (I.len src))) (m.set b (.sym es (I.cpy l 0 (I.len l) src)))
    | _, _, _ => .fail
  | .sl b i es' n _ => match es == es', okW wr b, m[b]? with
    | true, true, some (.sym _ l) => k (I.mn (I.ofNat n.val) (I.ofNat (I.len src))) (m.set b (.sym es (I.cpy l i.val n.val src)))
    | _, _, _ => .fail
  | _ => .fail
/-- Rows that are known cell by cell behind such rows that have no room: new ones. -/
def appLit (es bytes : Nat) (wr : Option (List Nat × Nat)) (a b : C) (m : Mem) (k : A → Mem → Tree) : Tree :=
  match a, b with
  | .row b1 es1 (some (.lit n)), .row b2 es2 _ => match m[b1]?, m[b2]? with
    | some (.lit e1 (r1 :: rows1)), some (.lit e2 (r :: rows2)) => match es == es1, es == es2, es == e1, es == e2, n == rows1.length + 1 with
      | true, true, true, true, true => .most ((r1 :: rows1) ++ (r :: rows2)).length bytes fun _ => k (.one (.c (.row m.length es none))) (m ++ [.lit es ((r1 :: rows1) ++ (r :: rows2))])
      | _, _, _, _, _ => .fail
    | _, _ => .fail
  | .row b1 es1 none, .row b2 es2 _ => match m[b1]?, m[b2]? with
    | some (.lit e1 (r1 :: rows1)), some (.lit e2 (r :: rows2)) => match es == es1, es == es2, es == e1, es == e2, okW wr b1 with
      | true, true, true, true, true => .most ((r1 :: rows1) ++ (r :: rows2)).length bytes fun _ => k (.one (.c (.row m.length es none))) (m.set b1 .dead ++ [.lit es ((r1 :: rows1) ++ (r :: rows2))])
      | _, _, _, _, _ => .fail
    | _, _ => .fail
  | _, _ => .fail
def mapOf (ag : Option Nat) (a : C) (kd : IntKind) (m : Mem) (k : Nat → List (List G) → Tree) : Tree :=
  match a, kd with
  | .map b, .i64 => match m[b]? with
    | some (.mp ag' l) => match ag == ag' with
      | true => k b l
      | false => .fail
    | _ => .fail
  | _, _ => .fail
/-- Keys of two numbers are not covered there. -/
def noPair (ag : Option Nat) (t : Tree) : Tree := match ag with
  | some 0 => .fail
  | _ => t
def evK (ag : Option Nat) (ts : List A) (x : Opd) (k : IntKind → Z → Tree) : Tree :=
  match ag with
  | some 0 => match x.ev ts with
    | .one (.agg [.g (.int .i64 a), .g (.int .i64 b)]) => k .i64 (.sym (I.pair a.val b.val))
    | _ => .fail
  | _ => evZ ts x k
def fits (ag : Option Nat) (v : V1) : Bool := match ag, v with
  | none, .c _ => true
  | some n, .agg l => l.length == n
  | _, _ => false
def evOp (er : Bool) (wr : Option (List Nat × Nat)) (o : XOp) (ts : List A) (m : Mem) (k : A → Mem → Tree) : Tree :=
  match o with
  | .move x => k (x.ev ts) m
  | .pick c a b => evB ts c fun t => match t with | true => k (a.ev ts) m | false => k (b.ev ts) m
  | .box x => evV ts x fun v => k (.one (.c (.ptr m.length (.lit 0) v.cells.length 0))) (m ++ [.lit v.cells.length [v.cells]])
  | .alloc z => k (.one (.c (.ptr m.length (.lit 0) z.length 0))) (m ++ [.lit z.length [z]])
  | .build z ps => evParts ts ps fun vs => match places z vs with | some cs => k (.one (.agg cs)) m | none => .fail
  | .buildSlice es z n ps => evParts ts (ps.map fun (i, x) => (i * es, es, x)) fun vs => frzP I vs m fun vs m => match places (List.replicate n z).flatten vs with
    | some cs => k (.one (.c (.row m.length es (some (.lit n))))) (m ++ [.lit es ((List.range n).map fun i => (cs.drop (i * es)).take es)])
    | none => .fail
  | .load ag x => evC ts x fun a => match er, okR wr a with | true, false => .fail | _, _ => ld ag a m fun v => k (.one v) m
  | .store size x y => evC ts x fun a => evV ts y fun v => match a with
    | .ptr b _ _ _ => match okW wr b with
      | true => match fzWant I b v m with
        | true => frzV I v m fun v m => stq I size a v m fun m => k (.one (.c .any)) m
        | false => stq I size a v m fun m => k (.one (.c .any)) m
      | false => .fail
    | _ => .fail
  | .bin op x y => evZ ts x fun i a => evZ ts y fun i' b => match decide (i = i') with
    | true => k (.one (.c (.g (.int i (zBin I op i a b))))) m
    | false => .fail
  | .div op x y => evZ ts x fun i a => evZ ts y fun i' b => match decide (i = i') with
    | true => match b with
      | .lit n => (match decide (n = 0) with | true => .fail | false => k (.one (.c (.g (.int i (zBin I op i a b))))) m)
      | .sym n => .nz n fun _ => k (.one (.c (.g (.int i (zBin I op i a b))))) m
    | false => .fail
  | .shift op x y => evZ ts x fun i a => evZ ts y fun _ b => match b with
    | .lit n => (match decide (0 ≤ n) with | true => k (.one (.c (.g (.int i (zBin I op i a b))))) m | false => .fail)
    | .sym n => .nonneg n fun _ => k (.one (.c (.g (.int i (zBin I op i a b))))) m
  | .cmp op x y => evZ ts x fun i a => evZ ts y fun i' b => match decide (i = i') with
    | true => k (.one (.c (.g (.bool (zCmp I op a b))))) m
    | false => .fail
  | .eq ng kd x y => ev1 ts x fun a => ev1 ts y fun b => match eqV I kd a b with
    | some r => k (.one (.c (.g (.bool (match ng with | true => bNot I r | false => r))))) m
    | none => .fail
  | .isNil ng x => evC ts x fun a => match a with
    | .g .nil => k (.one (.c (.g (.bool (.lit (!ng)))))) m
    | .g (.rows _ l) => .isnil l (fun _ => k (.one (.c (.g (.bool (.lit (!ng)))))) m) (fun _ => k (.one (.c (.g (.bool (.lit ng))))) m)
    | .bor _ l => .isnil l (fun _ => k (.one (.c (.g (.bool (.lit (!ng)))))) m) (fun _ => k (.one (.c (.g (.bool (.lit ng))))) m)
    | _ => .fail
  | .not x => match x.ev ts with
    | .one (.c (.g (.bool b))) => k (.one (.c (.g (.bool (bNot I b))))) m
    | _ => .fail
  | .neg x => evZ ts x fun i a => k (.one (.c (.g (.int i (zNeg I i a))))) m
  | .cpl x => evZ ts x fun i a => k (.one (.c (.g (.int i (zCpl I i a))))) m
  | .conv i x => evZ ts x fun _ a => k (.one (.c (.g (.int i (zConv I i a))))) m
  | .fieldAddr off x => evC ts x fun a => match a with
    | .ptr b i es j => k (.one (.c (.ptr b i es (j + off)))) m
    | .gp r j => k (.one (.c (.gp r (j + off)))) m
    | _ => .fail
  | .field off ag x => ev1 ts x fun v => match v with
    | .agg l => seg l off ag fun v => k (.one v) m
    | _ => .fail
  | .indexAddr arr es x i => evC ts x fun a => evZ ts i fun _ z => match arr with
    | some n => match a with
      | .ptr b i es' j => zIdx true z (.lit n) fun q => match q with
        | .lit q => k (.one (.c (.ptr b i es' (j + q * es)))) m
        | .sym _ => .fail
      | _ => .fail
    | none => match a with
      | .g (.rows es' l) => match es == es' with
        | true => zIdx false z (.sym (I.len l)) fun q => .nth l q.val fun r => k (.one (.c (.gp r 0))) m
        | false => .fail
      | .bor es' l => match es == es' with
        | true => zIdx false z (.sym (I.len l)) fun q => .nth l q.val fun r => k (.one (.c (.gp r 0))) m
        | false => .fail
      | .row b es' _ => match es == es', m[b]? with
        | true, some (.lit _ r) => zIdx (manyLit r) z (.lit r.length) fun q => k (.one (.c (.ptr b q es 0))) m
        | true, some (.sym _ l) => zIdx false z (.sym (I.len l)) fun q => k (.one (.c (.ptr b q es 0))) m
        | _, _ => .fail
      | .sl b o es' n _ => match es == es', m[b]? with
        | true, some (.lit _ _) => zIdx true z n fun q => k (.one (.c (.ptr b (nAdd I o q) es 0))) m
        | true, some (.sym _ _) => zIdx false z n fun q => k (.one (.c (.ptr b (nAdd I o q) es 0))) m
        | _, _ => .fail
      | _ => .fail
  | .index n es ag x i => ev1 ts x fun v => evZ ts i fun _ z => match v with
    | .agg l => zIdx true z (.lit n) fun q => match q with
      | .lit q => seg l (q * es) ag fun v => k (.one v) m
      | .sym _ => .fail
    | _ => .fail
  | .slice es x lo hi => evC ts x fun a => evZ? ts lo fun l => evZ? ts hi fun h => match a with
    | .g .nil => zRng l h (.lit 0) fun _ _ => k (.one (.c (.g .nil))) m
    | .g (.rows es' r) => match es == es' with
      | true => zRng l h (.sym (I.len r)) fun p q => k (.one (.c (.g (.rows es (I.ext r p.val q.val))))) m
      | false => .fail
    | .bor es' r => match es == es' with
      | true => zRng l h (.sym (I.len r)) fun p q => k (.one (.c (.bor es (I.ext r p.val q.val)))) m
      | false => .fail
    | .row b es' c => match es == es', m[b]? with
      | true, some .dead => .fail
      | true, some blk => zRng l h (blk.len I) fun p q => k (.one (.c (.sl b p es (nSub I q p) (c.map fun c => nSub I c p)))) m
      | _, _ => .fail
    | .sl b o es' n c => match es == es', m[b]? with
      | true, some .dead => .fail
      | true, some _ => zRng l h (match hi, c with | some _, some c => c | _, _ => n) fun p q => k (.one (.c (.sl b (nAdd I o p) es (nSub I q p) (c.map fun c => nSub I c p)))) m
      | _, _ => .fail
    | _ => .fail
  | .makeSlice es bytes z ln none => evZ ts ln fun _ n => match n, grounds z with
    | .lit n, gz => match decide (16 < n), gz with
      | true, some g => .size n bytes fun n' => k (.one (.c (.row m.length es (some (.sym n'))))) (m ++ [.sym es (I.rep n' (g.map G.sy))])
      | _, _ => match decide (0 ≤ n), decide (n ≤ 4096) with
        | true, true => k (.one (.c (.row m.length es (some (.lit n.toNat))))) (m ++ [.lit es (List.replicate n.toNat z)])
        | _, _ => .fail
    | .sym n, some g => .size n bytes fun n' => k (.one (.c (.row m.length es (some (.sym n'))))) (m ++ [.sym es (I.rep n' (g.map G.sy))])
    | .sym _, none => .fail
  | .makeSlice es bytes z ln (some cp) => evZ ts ln fun _ n => evZ ts cp fun _ c => match grounds z with
    | some g => .size c.val bytes fun c' => .idx n.val (I.add c' 1) fun n' => k (.one (.c (.sl m.length (.lit 0) es (.sym n') (some (.sym c'))))) (m ++ [.sym es (I.rep c' (g.map G.sy))])
    | none => .fail
  | .extract x i => match x.ev ts with
    | .tup l => match l[i]? with
      | some v => k (.one v) m
      | none => .fail
    | _ => .fail
  | .len x => evC ts x fun a => match lenOf I a m with
    | some n => k (.one (.c (.g (.int .i64 (zOfN I n))))) m
    | none => .fail
  | .cap x => evC ts x fun a => match a with
    | .g .nil => k (.one (.c (.g (.int .i64 (zOfN I (.lit 0)))))) m
    | .row b _ (some c) => match m[b]? with
      | some .dead => .fail
      | some _ => k (.one (.c (.g (.int .i64 (zOfN I c))))) m
      | none => .fail
    | .sl b _ _ _ (some c) => match m[b]? with
      | some .dead => .fail
      | some _ => k (.one (.c (.g (.int .i64 (zOfN I c))))) m
      | none => .fail
    | _ => .fail
  | .mnmx mx x l => evZ ts x fun i a => evZs ts l fun zs => k (.one (.c (.g (.int i (zs.foldl (zMx I mx) a))))) m
  | .append es bytes _ x y => evC ts x fun a => evC ts y fun b => match isNilRow a, isNilRow b with
    | true, true => k (.one (.c (.g .nil))) m
    | true, false => match rowsOf I es b m with
      | some src => .most (I.len src) bytes fun _ => k (.one (.c (.row m.length es none))) (m ++ [.sym es src])
      | none => match b with
        | .row b es' _ => match es == es', m[b]? with
          | true, some (.lit es2 rows) => match es == es2 with
            | true => .most rows.length bytes fun _ => k (.one (.c (.row m.length es none))) (m ++ [.lit es rows])
            | false => .fail
          | _, _ => .fail
        | _ => .fail
    | false, true => match a with
      | .row b es' c => match m[b]? with
        | some .dead => .fail
        | some _ => k (.one (.c (.row b es' c))) m
        | none => .fail
      | .sl b i es' n c => match m[b]? with
        | some .dead => .fail
        | some _ => k (.one (.c (.sl b i es' n c))) m
        | none => .fail
      | _ => .fail
    | false, false => match rowsOf I es a m, rowsOf I es b m, baseOf a with
      | some old, some src, some b => match okW wr b with
        | true => .most (I.len (I.app old src)) bytes fun _ => k (.one (.c (.row m.length es none))) ((m.set b .dead) ++ [.sym es (I.app old src)])
        | false => .fail
      | _, _, _ => appLit es bytes wr a b m k
  | .call f args => ev1s ts args fun vs => .call f vs m wr k
  | .nilCheck x => evC ts x fun a => match a with
    | .ptr b i es j => k (.one (.c (.ptr b i es j))) m
    | .gp r j => k (.one (.c (.gp r j))) m
    | _ => .fail
  | .dead => .fail
  | .copy es x y => evC ts x fun a => evC ts y fun b => match rowsOf I es b m with
    | some src => cpy I es wr src a m fun n m => k (.one (.c (.g (.int .i64 (.sym n))))) m
    | none => .fail
  | .b2s x => evC ts x fun a => match rowsOf I 1 a m with
    | some l => .bytes l fun _ => k (.one (.c (.g (.str (I.b2s l))))) m
    | none => .fail
  | .appendZ es bytes z x y => evC ts x fun a => evZ ts y fun _ n => match a, grounds z with
    | .g .nil, some g => .nz n.val fun _ => .size n.val bytes fun n' => .most n' bytes fun _ => k (.one (.c (.row m.length es none))) (m ++ [.sym es (I.rep n' (g.map G.sy))])
    | _, _ => .fail
  | .s2b l => k (.one (.c (.row m.length 1 none))) (m ++ [.sym 1 (l.map fun (n : Nat) => [.int .u8 (.sym (n : Int))])])
  | .makeMap ag => k (.one (.c (.map m.length))) (m ++ [.mp ag []])
  | .lookup ok ag z x i => evC ts x fun a => evK I ag ts i fun kd key => mapOf ag a kd m fun _ l => .find l key.val fun r => match r with
    | some row => seg (row.map .g) 1 (vag ag) fun v => k (match ok with | true => .tup [v, .c (.g (.bool (.lit true)))] | false => .one v) m
    | none => seg z 0 (vag ag) fun v => k (match ok with | true => .tup [v, .c (.g (.bool (.lit false)))] | false => .one v) m
  | .mapUpdate ag x i v => evC ts x fun a => evK I ag ts i fun kd key => evV ts v fun v => frzV I v m fun v m => mapOf ag a kd m fun b l => match okW wr b, grounds v.cells, fits (vag ag) v with
    | true, some gs, true => k (.one (.c .any)) (m.set b (.mp ag (I.mset l key.val (.int .i64 (.sym key.val) :: gs.map G.sy))))
    | _, _, _ => .fail
  | .mapEntry ag z x i => evC ts x fun a => evZ ts i fun kd key => mapOf ag a kd m fun b l => .find l key.val fun r => match okW wr b, r with
    | true, some row => seg (row.map .g) 1 ag fun v => k (.tup [v, .c (.stamp b key)]) m
    | true, none => match grounds z with
      | some gs => seg z 0 ag fun v => k (.tup [v, .c (.stamp b key)]) (m.set b (.mp ag (I.mset l key.val (.int .i64 (.sym key.val) :: gs.map G.sy))))
      | none => .fail
    | false, _ => .fail
  | .entryStore ag x s v => evC ts x fun a => evC ts s fun s => evV ts v fun v => mapOf ag a .i64 m fun b l => match s, okW wr b, grounds v.cells, fits ag v with
    | .stamp b' key, true, some gs, true => match b == b' with
      | true => k (.one (.c .any)) (m.set b (.mp ag (I.mset l key.val (.int .i64 (.sym key.val) :: gs.map G.sy))))
      | false => .fail
    | _, _, _, _ => .fail
  | .lenMap x => evC ts x fun a => match a with
    | .map b => match m[b]? with
      | some (.mp _ l) => k (.one (.c (.g (.int .i64 (.sym (I.ofNat (I.len l))))))) m
      | _ => .fail
    | _ => .fail
  | .makeFunc f xs => ev1s ts xs fun vs => match capsOf vs with
    | some l => k (.one (.c (.fn f l))) m
    | none => .fail
  | .callV x args => evC ts x fun a => match a with
    | .fn f caps => ev1s ts args fun vs => .fnok f fun _ => .call f (vs ++ capsIn caps) m wr k
    | _ => .fail

def putT (ts : List A) (d : Option Nat) (v : A) : List A := match d with
  | some d => ts.set d v
  | none => ts
/-- Is the operation to be done? A letter is decided, for good. -/
def evGuard (g : Option (Nat × Bool)) (ts : List A) (k : Bool → List A → Tree) : Tree :=
  match g with
  | none => k true ts
  | some (t, want) => match getT ts t with
    | .one (.c (.g (.bool (.lit b)))) => k (b == want) ts
    | .tup [] => k false ts
    | .one (.c (.g (.bool (.sym b)))) => .br b (fun _ => k (true == want) (ts.set t (.one (.c (.g (.bool (.lit true))))))) (fun _ => k (false == want) (ts.set t (.one (.c (.g (.bool (.lit false)))))))
    | _ => .fail
def ev1op (er : Bool) (wr : Option (List Nat × Nat)) (o : XO) (ts : List A) (m : Mem) (k : List A → Mem → Tree) : Tree :=
  evGuard o.guard ts fun t ts => match t with
    | true => evOp I er wr o.op ts m fun v m => k (putT ts o.dst v) m
    | false => k (putT ts o.dst (.tup [])) m
def evOps : List XO → List A → Mem → (List A → Mem → Tree) → Tree
  | [], ts, m, k => k ts m
  | o :: r, ts, m, k => ev1op I false none o ts m fun ts m => evOps r ts m k
/-- A region that draws its order: what is taken early reads no block that the region writes. -/
def evDrawn (wr : List Nat × Nat) : DX → List A → Mem → (List A → Mem → Tree) → Tree
  | .nil, ts, m, k => k ts m
  | .op _ er o r, ts, m, k => ev1op I er (some wr) o ts m fun ts m => evDrawn wr r ts m k
  | .alt a b, ts, m, k => .both (fun _ => evDrawn wr a ts m k) (fun _ => evDrawn wr b ts m k)
/-- What a round over a map is told. -/
def rowVal (ag : Option Nat) (gs : List G) : V1 := match ag with
  | none => match gs with
    | [g] => .c (.g g)
    | _ => .c .any
  | some _ => .agg (gs.map C.g)
def roundT (ts : List A) (t1 tok t2 : Nat) (ag : Option Nat) (z : Z) (gs : List G) : List A :=
  ((ts.set t1 (.tup [.c (.g (.bool (.lit true))), .c .any, .c .any])).set tok (.one (.c (.g (.bool (.lit true)))))).set t2 (.tup [.c (.g (.int .i64 z)), rowVal ag gs])
def overT (ts : List A) (t1 tok : Nat) : List A := (ts.set t1 (.tup [.c (.g (.bool (.lit false)))])).set tok (.one (.c (.g (.bool (.lit false)))))
def ev : X → List A → Mem → (Ex → List A → Mem → Tree) → Tree
  | .skip, ts, m, k => k .normal ts m
  | .ops l, ts, m, k => evOps I l ts m fun ts m => k .normal ts m
  | .drawn _ l, ts, m, k => .drawn m fun w => evDrawn I (w, m.length) l ts m fun ts m => k .normal ts m
  | .seq a b, ts, m, k => ev a ts m fun e ts m => match e with
    | .normal => ev b ts m k
    | .exit id => k (.exit id) ts m
    | .ret => k .ret ts m
  | .cond c t e, ts, m, k => evB ts c fun b => match b with
    | true => ev t ts m k
    | false => ev e ts m k
  | .block id x, ts, m, k => ev x ts m fun e ts m => match e with
    | .exit i => match i == id with
      | true => k .normal ts m
      | false => k (.exit i) ts m
    | .normal => k .normal ts m
    | .ret => k .ret ts m
  | .loop x, ts, m, k => .loop x ts m k
  | .exit id, ts, m, k => k (.exit id) ts m
  | .ret, ts, m, k => k .ret ts m
  | .join x, ts, m, k => .join x ts m k
  | .mloop pre mp it t1 tok t2 x, ts, m, k => evOps I pre ts m fun ts m => evC ts mp fun c => match c with
    | .map b => match m[b]? with
      | some (.mp ag l) => noPair ag <| .mloop x b ag l it t1 tok t2 (ts.set it (.one (.c (.ptr m.length (.lit 0) 0 0)))) (m ++ [.dead]) (fun ts m => k .normal ts m)
      | _ => .fail
    | _ => .fail
  | .rfun c, ts, m, k => .rfun c ts m (fun ts m => k .normal ts m)
def evRes : List XRes → List A → Mem → (List V1 → Tree) → Tree
  | [], _, _, k => k []
  | .tmp t :: r, ts, m, k => ev1 ts (.tmp t) fun v => evRes r ts m fun vs => k (v :: vs)
  | .cell t ag :: r, ts, m, k => evC ts (.tmp t) fun a => ld ag a m fun v => evRes r ts m fun vs => k (v :: vs)
def evEnd (res : List XRes) (ts : List A) (m : Mem) (k : A → Mem → Tree) : Tree :=
  evRes res ts m fun vs => match vs with
    | [v] => k (.one v) m
    | vs => k (.tup vs) m
/-- A function's body from its arguments on. -/
def evF (x : XF) (args : List V1) (m : Mem) (k : A → Mem → Tree) : Tree :=
  ev I x.body (args.map .one ++ List.replicate (x.ntmps - args.length) (.one (.c .any))) m fun e ts m => match e with
    | .exit _ => .fail
    | .normal => evEnd x.res ts m k
    | .ret => evEnd x.res ts m k

/-! ### Other names for blocks -/
inductive How where
  | keep
  | rows (es : Nat)
  | bor (es : Nat)
  | frz (l : List Nat)
/-- A row that keeps no name. -/
def How.low (q : How) (b es : Nat) (l : Option (List (List G))) : C := match q, l with
  | .bor _, some l => .bor es l
  | .frz fz, some l => match fz.contains b with
    | true => .g (.rows es l)
    | false => .any
  | _, _ => .any
/-- What a function value has with it, where blocks have other names. -/
def capsInv (σ : List Nat) : List (Nat × Nat × Nat) → Option (List (Nat × Nat × Nat))
  | [] => some []
  | (b, es, j) :: r => match σ.idxOf? b, capsInv σ r with
    | some b, some l => some ((b, es, j) :: l)
    | _, _ => none
/-- A cell as it is named where block 'σ[i]' has the name 'i'; other rows are lent, or frozen, or forgotten. -/
def C.inv (σ : List Nat) (q : How) (m : Mem) (x : C) : C :=
  match x with
  | .ptr b i es j => match σ.idxOf? b with
    | some b => .ptr b i es j
    | none => .any
  | .row b es cap => match σ.idxOf? b with
    | some b => .row b es cap
    | none => q.low b es (rowsOf I es (.row b es cap) m)
  | .sl b i es n cap => match σ.idxOf? b with
    | some b => .sl b i es n cap
    | none => q.low b es (rowsOf I es (.sl b i es n cap) m)
  | .map b => match σ.idxOf? b with
    | some b => .map b
    | none => .any
  | .stamp b z => match σ.idxOf? b with
    | some b => .stamp b z
    | none => .any
  | .fn f caps => match capsInv σ caps with
    | some l => .fn f l
    | none => .any
  | .g (.rows es l) => match q with
    | .bor _ => .bor es l
    | _ => .g (.rows es l)
  | .g .nil => match q with
    | .bor es => .bor es []
    | .rows es => .g (.rows es [])
    | _ => .g .nil
  | x => x
def V1.inv (σ : List Nat) (q : How) (m : Mem) : V1 → V1
  | .c x => .c (x.inv I σ q m)
  | .agg l => .agg (l.map (C.inv I σ q m))
def A.inv (σ : List Nat) (q : How) (m : Mem) : A → A
  | .one v => .one (v.inv I σ q m)
  | .tup l => .tup (l.map (V1.inv I σ q m))
def Blk.inv (σ : List Nat) (q : How) (m : Mem) : Blk → Blk
  | .dead => .dead
  | .lit es rows => .lit es (rows.map fun r => r.map (C.inv I σ q m))
  | .sym es l => .sym es l
  | .mp ag l => .mp ag l
/-- The blocks that are named anew. -/
def invMem (σ : List Nat) (q : How) (m : Mem) : Mem := σ.map fun b => (m.getD b .dead).inv I σ q m
def invArgs (σ : List Nat) (m : Mem) : List How → List V1 → List V1
  | _, [] => []
  | [], v :: r => v.inv I σ .keep m :: invArgs σ m [] r
  | q :: qs, v :: r => v.inv I σ q m :: invArgs σ m qs r
/-- Back: name 'i' is 'σ[i]', or a new one. -/
def up (σ : List Nat) (n b : Nat) : Nat := match σ[b]? with
  | some b => b
  | none => n + (b - σ.length)
def C.up (σ : List Nat) (n : Nat) (x : C) : C :=
  match x with
  | .ptr b i es j => .ptr (E.up σ n b) i es j
  | .row b es cap => .row (E.up σ n b) es cap
  | .sl b i es k cap => .sl (E.up σ n b) i es k cap
  | .map b => .map (E.up σ n b)
  | .stamp b z => .stamp (E.up σ n b) z
  | .fn f caps => .fn f (caps.map fun c => (E.up σ n c.1, c.2.1, c.2.2))
  | .g x => .g x
  | _ => .any
def V1.up (σ : List Nat) (n : Nat) : V1 → V1
  | .c x => .c (x.up σ n)
  | .agg l => .agg (l.map (C.up σ n))
def A.up (σ : List Nat) (n : Nat) : A → A
  | .one v => .one (v.up σ n)
  | .tup l => .tup (l.map (V1.up σ n))
def Blk.up (σ : List Nat) (n : Nat) : Blk → Blk
  | .dead => .dead
  | .lit es rows => .lit es (rows.map fun r => r.map (C.up σ n))
  | .sym es l => .sym es l
  | .mp ag l => .mp ag l
def setAll : Mem → List Nat → List Blk → Mem
  | m, b :: σ, x :: r => setAll (m.set b x) σ r
  | m, _, _ => m
def kill : Mem → List Nat → Mem
  | m, [] => m
  | m, b :: r => kill (m.set b .dead) r
/-- The memory behind a call: the blocks that were handed in as they are now, and new ones. -/
def upMem (σ fz : List Nat) (m m1 : Mem) : Mem :=
  let r := m1.map (Blk.up σ m.length)
  setAll (kill m fz) σ (r.take σ.length) ++ r.drop σ.length
/-- What may leave: nothing lent. -/
def C.free : C → Bool
  | .bor _ _ => false
  | .gp _ _ => false
  | _ => true
def V1.free : V1 → Bool
  | .c x => x.free
  | .agg l => l.all C.free
def A.free : A → Bool
  | .one v => v.free
  | .tup l => l.all V1.free
def Blk.free : Blk → Bool
  | .lit _ rows => rows.all fun r => r.all C.free
  | _ => true
/-- Known numbers are letters from here on: where a loop begins. -/
def C.sy : C → C
  | .g (.int k z) => .g (.int k (.sym z.val))
  | .g (.bool b) => .g (.bool (.sym b.val))
  | x => x
def V1.sy : V1 → V1
  | .c x => .c x.sy
  | .agg l => .agg (l.map C.sy)
def A.sy : A → A
  | .one v => .one v.sy
  | .tup l => .tup (l.map V1.sy)
def Blk.sy : Blk → Blk
  | .dead => .dead
  | .lit es rows => .lit es (rows.map fun r => r.map C.sy)
  | .sym es l => .sym es l
  | .mp ag l => .mp ag l
/-- Names no row of block b. -/
def C.notRow (b : Nat) : C → Bool
  | .row b2 _ _ => !(b2 == b)
  | .sl b2 _ _ _ _ => !(b2 == b)
  | _ => true
def V1.notRow (b : Nat) : V1 → Bool
  | .c x => x.notRow b
  | .agg l => l.all (C.notRow b)
def A.notRow (b : Nat) : A → Bool
  | .one v => v.notRow b
  | .tup l => l.all (V1.notRow b)
def Blk.notRow (b : Nat) : Blk → Bool
  | .lit _ rows => rows.all fun r => r.all (C.notRow b)
  | _ => true
def maskT (keep : List Nat) (n : Nat) : List A → List A
  | [] => []
  | x :: r => (match keep.contains n with | true => x | false => .one (.c .any)) :: maskT keep (n + 1) r
end
end Go.Proofs.Ytccfcenhpmdemaa.E
