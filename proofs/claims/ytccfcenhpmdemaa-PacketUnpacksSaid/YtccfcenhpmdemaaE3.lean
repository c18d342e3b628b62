/- Compact code out of the program's, and what operations that leave the memory alone do. -/
import Derived.Test.YtccfcenhpmdemaaE2
import Derived.WalkLawsBesides
import Derived.WalkKit
import Derived.Great.BuildSlice
namespace Go.Proofs.Ytccfcenhpmdemaa.E
open Go
set_option linter.unusedVariables false

/-! ### Compact code -/
def cst : Value → Option C
  | .bool b => some (.g (.bool (.lit b)))
  | .int k n => some (.g (.int k (.lit n)))
  | .string s => some (.g (.str s))
  | .pointer none => some (.g .nilp)
  | .slice none 0 0 => some (.g .nil)
  | _ => none
/-- Noughts: what has no name is a letter. -/
def zcst (v : Value) : Option C := match v with
  | .map none => some .any
  | .nilFunc => some .any
  | v => cst v
def csts : List Value → Option (List C)
  | [] => some []
  | v :: r => match zcst v, csts r with
    | some x, some l => some (x :: l)
    | _, _ => none
def opd : Operand → Option Opd
  | .tmp t => some (.tmp t)
  | .const v => match zcst v with
    | some c => some (.cst c)
    | none => none
  | .func f => some (.cst (.fn f []))
  | .global _ => none
def opds : List Operand → Option (List Opd)
  | [] => some []
  | x :: r => match opd x, opds r with
    | some x, some l => some (x :: l)
    | _, _ => none
/-- The cells of a type's nought. -/
def zero (P : Program) (t : TypeId) : Option (List C) :=
  match P.info? t with
  | some i => match i.zero with
    | some z => match z.cells.size == i.size with
      | true => csts z.cells.toList
      | false => none
    | none => none
  | none => none
def size? (P : Program) (t : TypeId) : Option Nat := (P.info? t).map (·.size)
/-- How a variable of the type is read: one cell, or so many. -/
def agOf (P : Program) (t : TypeId) : Option (Option Nat) :=
  match P.underlying t with
  | some (.struct _) => (size? P t).map some
  | some (.array _ _) => (size? P t).map some
  | some _ => some none
  | none => none
def isArith : BinOp → Bool
  | .add | .sub | .mul | .and | .or | .xor | .andNot => true
  | _ => false
def isDiv : BinOp → Bool
  | .quo | .rem => true
  | _ => false
def isShift : BinOp → Bool
  | .shl | .shr => true
  | _ => false
def isCmp : BinOp → Bool
  | .eql | .neq | .lss | .leq | .gtr | .geq => true
  | _ => false
/-- The fields of a struct that is compared cell by cell: numbers and bools alone, one behind the other. -/
def flat (P : Program) : List Field → Nat → Option (List Bool)
  | [], _ => some []
  | f :: r, n => match P.underlying f.type, f.offset == n, f.name == "_" with
    | some (.int _), true, false => match flat P r (n + 1) with
      | some l => some (false :: l)
      | none => none
    | some .bool, true, false => match flat P r (n + 1) with
      | some l => some (true :: l)
      | none => none
    | _, _, _ => none
def compBin (P : Program) (op : BinOp) (t : TypeId) (x y : Opd) : Option XOp :=
  match P.underlying t with
  | some (.int _) => match isArith op, isDiv op, isShift op, isCmp op with
    | true, _, _, _ => some (.bin op x y)
    | _, true, _, _ => some (.div op x y)
    | _, _, true, _ => some (.shift op x y)
    | _, _, _, true => some (.cmp op x y)
    | _, _, _, _ => none
  | some .bool => match op with
    | .eql => some (.eq false .bool x y)
    | .neq => some (.eq true .bool x y)
    | _ => none
  | some (.pointer _) => match op with
    | .eql => some (.eq false .ptr x y)
    | .neq => some (.eq true .ptr x y)
    | _ => none
  | some .string => match op with
    | .eql => some (.eq false .str x y)
    | .neq => some (.eq true .str x y)
    | _ => none
  | some (.slice _) => match op, y with
    | .eql, .cst (.g .nil) => some (.isNil false x)
    | .neq, .cst (.g .nil) => some (.isNil true x)
    | _, _ => none
  | some (.struct fs) => match flat P fs.toList 0, P.eqGuardType P.depth t, P.stoodInHeld t with
    | some n, false, false => match op with
      | .eql => some (.eq false (.agg n) x y)
      | .neq => some (.eq true (.agg n) x y)
      | _ => none
    | _, _, _ => none
  | _ => none
def compBuild (P : Program) (t : TypeId) : List (Nat × Operand) → Option (List (Nat × Nat × Opd))
  | [] => some []
  | (i, x) :: r => match opd x, compBuild P t r with
    | some x, some l => match P.underlying t with
      | some (.struct fs) => match fs[i]? with
        | some f => match size? P f.type with
          | some n => some ((f.offset, n, x) :: l)
          | none => none
        | none => none
      | some (.array _ e) => match size? P e with
        | some n => some ((i * n, n, x) :: l)
        | none => none
      | _ => none
    | _, _ => none
def sized (P : Program) (t : TypeId) : Bool := match P.underlying t with
  | some (.struct fs) => fs.all fun f => (size? P f.type).isSome
  | some (.array _ e) => (size? P e).isSome
  | _ => false
def compParts : List (Nat × Operand) → Option (List (Nat × Opd))
  | [] => some []
  | (i, x) :: r => match opd x, compParts r with
    | some x, some l => some ((i, x) :: l)
    | _, _ => none
def compOpt : Option Operand → Option (Option Opd)
  | none => some none
  | some x => match opd x with
    | some x => some (some x)
    | none => none
def compCall (P : Program) (c : Call) (type : TypeId) : Option XOp :=
  match c.callee with
  | .value (.func f) => match P.funcs[f]? with
    | some fn => match fn.name == "runtime.NumGoroutine", fn.body.isSome, opds c.args.toList with
      | false, true, some l => some (.call f l)
      | _, _, _ => none
    | none => none
  | .builtin .copy => match c.args.toList, c.argTypes[0]?, c.argTypes[1]? with
    | [x, y], some t, some t' => match P.underlying t, P.underlying t', opd x, opd y with
      | some (.slice e), some (.slice _), some x, some y => match size? P e with
        | some es => match decide (0 < es) with
          | true => some (.copy es x y)
          | false => none
        | none => none
      | _, _, _, _ => none
    | _, _, _ => none
  | .builtin .len => match c.args.toList, c.argTypes[0]? with
    | [x], some t => match P.underlying t, opd x with
      | some (.slice _), some x => some (.len x)
      | some (.map _ _), some x => some (.lenMap x)
      | _, _ => none
    | _, _ => none
  | .builtin .cap => match c.args.toList, c.argTypes[0]? with
    | [x], some t => match P.underlying t, opd x with
      | some (.slice _), some x => some (.cap x)
      | _, _ => none
    | _, _ => none
  | .builtin .min => match opds c.args.toList with
    | some (x :: l) => some (.mnmx false x l)
    | _ => none
  | .builtin .max => match opds c.args.toList with
    | some (x :: l) => some (.mnmx true x l)
    | _ => none
  | .builtin .append => match c.args.toList, c.argTypes.toList with
    | [x, y], [t, u] => match t == u, P.underlying t with
      | true, some (.slice e) => match P.info? e, zero P e, opd x, opd y with
        | some i, some z, some x, some y => match decide (0 < i.size) with
          | true => some (.append i.size i.bytes z x y)
          | false => none
        | _, _, _, _ => none
      | false, some (.slice e) => match P.underlying u, P.info? e, zero P e, opd x, opd y with
        | some (.int _), some i, some z, some x, some y => match decide (0 < i.size) with
          | true => some (.appendZ i.size i.bytes z x y)
          | false => none
        | _, _, _, _, _ => none
      | _, _ => none
    | _, _ => none
  | .value (.tmp t) => (opds c.args.toList).map (.callV (.tmp t))
  | _ => none
/-- Maps of numbers: how a value is read, its nought. -/
def mapTy (P : Program) (t : TypeId) : Option (Option Nat × List C) :=
  match P.underlying t with
  | some (.map kt et) => match P.underlying kt, agOf P et, (P.info? et).bind (·.zero) with
    | some (.int .i64), some none, some v => match cst v with
      | some c => some (none, [c])
      | none => none
    | some (.int .i64), some (some (n + 1)), some (.agg cs) => match csts cs.toList, cs.size == n + 1 with
      | some z, true => some (some (n + 1), z)
      | _, _ => none
    | some (.array 2 e), some none, some v => match P.underlying e, P.info? e, P.cellsOf e == 1, cst v with
      | some (.int .i64), some _, true, some c => some (some 0, [c])
      | _, _, _, _ => none
    | _, _, _ => none
  | _ => none
/-- Maps whose keys are numbers. -/
def mapTyI (P : Program) (t : TypeId) : Option (Option Nat × List C) := match mapTy P t with
  | some (some 0, _) => none
  | x => x
def comp1 (P : Program) (o : Oper) : Option XOp :=
  match o.op with
  | .panic _ => some .dead
  | .makeInterface _ _ => some .dead
  | .makeMap t r => match mapTy P t, r with
    | some (ag, _), none => some (.makeMap ag)
    | _, _ => none
  | .lookup t x i ok => match mapTy P t, opd x, opd i with
    | some (ag, z), some x, some i => some (.lookup ok ag z x i)
    | _, _, _ => none
  | .mapUpdate t x i v => match mapTy P t, opd x, opd i, opd v with
    | some (ag, _), some x, some i, some v => some (.mapUpdate ag x i v)
    | _, _, _, _ => none
  | .mapEntry t x i => match mapTyI P t, opd x, opd i with
    | some (ag, z), some x, some i => some (.mapEntry ag z x i)
    | _, _, _ => none
  | .entryStore t x s v => match mapTyI P t, opd x, opd s, opd v with
    | some (ag, _), some x, some s, some v => some (.entryStore ag x s v)
    | _, _, _, _ => none
  | .move x => (opd x).map .move
  | .assign x => (opd x).map .move
  | .pick c a b => match opd c, opd a, opd b with
    | some c, some a, some b => some (.pick c a b)
    | _, _, _ => none
  | .box _ x => (opd x).map .box
  | .alloc t => (zero P t).map .alloc
  | .build t ps => match zero P t, compBuild P t ps.toList, sized P t with
    | some z, some l, true => some (.build z l)
    | _, _, _ => none
  | .buildSlice t n ps => match P.underlying t with
    | some (.slice e) => match size? P e, zero P e, compParts ps.toList with
      | some es, some z, some l => match decide (0 < es), decide (n * es ≤ 2 ^ 24) with
        | true, true => some (.buildSlice es z n l)
        | _, _ => none
      | _, _, _ => none
    | _ => none
  | .load t x => match agOf P t, opd x with
    | some ag, some x => some (.load ag x)
    | _, _ => none
  | .store t x y => match size? P t, opd x, opd y with
    | some n, some x, some y => some (.store n x y)
    | _, _, _ => none
  | .nilCheck x => (opd x).map .nilCheck
  | .binOp op t x y _ => match opd x, opd y with
    | some x, some y => compBin P op t x y
    | _, _ => none
  | .unOp op _ x => match op with
    | .not => (opd x).map .not
    | .neg => (opd x).map .neg
    | .xor => (opd x).map .cpl
    | .plus => none
  | .convert s d x => match P.underlying s, P.underlying d with
    | some (.int _), some (.int k) => (opd x).map (.conv k)
    | some (.slice e), some .string => match P.underlying e with
      | some (.int .u8) => (opd x).map .b2s
      | _ => none
    | some .string, some (.slice e) => match P.underlying e, x with
      | some (.int .u8), .const (.string b) => some (.s2b (b.data.toList.map UInt8.toNat))
      | _, _ => none
    | _, _ => none
  | .fieldAddr s x f => match P.underlying s with
    | some (.struct fs) => match fs[f]?, opd x with
      | some fd, some x => match size? P fd.type with
        | some n => match n == 0 with
          | false => some (.fieldAddr fd.offset x)
          | true => none
        | none => none
      | _, _ => none
    | _ => none
  | .field s x f => match P.underlying s with
    | some (.struct fs) => match fs[f]?, opd x with
      | some fd, some x => match agOf P fd.type with
        | some ag => some (.field fd.offset ag x)
        | none => none
      | _, _ => none
    | _ => none
  | .indexAddr t x i => match P.underlying t, opd x, opd i with
    | some (.array n e), some x, some i => (size? P e).map fun es => .indexAddr (some n) es x i
    | some (.slice e), some x, some i => (size? P e).map fun es => .indexAddr none es x i
    | _, _, _ => none
  | .index t x i => match P.underlying t, opd x, opd i with
    | some (.array n e), some x, some i => match size? P e, agOf P e with
      | some es, some ag => some (.index n es ag x i)
      | _, _ => none
    | _, _, _ => none
  | .slice t x lo hi none => match P.underlying t with
    | some (.slice e) => match size? P e, opd x, compOpt lo, compOpt hi with
      | some es, some x, some lo, some hi => some (.slice es x lo hi)
      | _, _, _, _ => none
    | _ => none
  | .makeSlice t l c => match P.underlying t with
    | some (.slice e) => match P.info? e, zero P e, opd l, opd c with
      | some i, some z, some lo, some co => match decide (0 < i.size), decide (0 < i.bytes), decide (i.bytes ≤ 4096), l, c with
        | true, true, true, .tmp a, .tmp b => match a == b with
          | true => some (.makeSlice i.size i.bytes z lo none)
          | false => some (.makeSlice i.size i.bytes z lo (some co))
        | true, true, true, .const (.int _ a), .const (.int _ b) => match a == b with
          | true => some (.makeSlice i.size i.bytes z lo none)
          | false => some (.makeSlice i.size i.bytes z lo (some co))
        | true, true, true, _, _ => some (.makeSlice i.size i.bytes z lo (some co))
        | _, _, _, _, _ => none
      | _, _, _, _ => none
    | _ => none
  | .extract x i => (opd x).map (.extract · i)
  | .call c => compCall P c o.type
  | .makeFunc (.func f) first caps => match first.isEmpty, opds caps.toList with
    | true, some l => some (.makeFunc f l)
    | _, _ => none
  | _ => none

def tmpOf (ops : Array Oper) : Option (Nat × Bool) → Option (Option (Nat × Bool))
  | none => some none
  | some (j, b) => match (ops[j]?).bind (·.dst) with
    | some t => some (some (t, b))
    | none => none
def compO (P : Program) (ops : Array Oper) (o : Oper) : Option XO :=
  match comp1 P o, tmpOf ops o.guard with
  | some x, some g => some ⟨o.dst, g, x⟩
  | _, _ => none
def compOs (P : Program) (ops : Array Oper) : List Oper → Option (List XO)
  | [] => some []
  | o :: r => match compO P ops o, compOs P ops r with
    | some x, some l => some (x :: l)
    | _, _ => none
/-- Operations that leave the memory alone. -/
def XOp.quiet : XOp → Bool
  | .move _ | .pick .. | .build .. | .load .. | .bin .. | .div .. | .shift .. | .cmp .. | .eq .. | .isNil .. | .not _ | .neg _ | .cpl _ | .conv .. | .fieldAddr .. | .field .. | .indexAddr .. | .index .. | .slice .. | .extract .. | .len _ | .cap _ | .mnmx .. | .nilCheck _ => true
  | _ => false
/-- An order of a region: quiet operations as soon as they may come up, others where they alone may. -/
inductive SD where
  | nil
  | op (i : Nat) (er : Bool) (r : SD)
  | alt (a b : SD)
/-- More than one? -/
def manyB : List Nat → Bool
  | [_] => false
  | _ => true
def sched (ops : Array Oper) (qs : Array Bool) : Nat → Array Bool → Option SD
  | 0, l => match Region.ready .any ops l with
    | [] => some .nil
    | _ => none
  | n + 1, l => match Region.ready .any ops l with
    | [] => some .nil
    | rs => match rs.find? (fun i => qs.getD i false && Region.free .any ops l i) with
      | some i => (sched ops qs n (l.setIfInBounds i true)).map (.op i (manyB rs))
      | none => match rs with
        | [i] => (sched ops qs n (l.setIfInBounds i true)).map (.op i false)
        | [i, j] => match sched ops qs n (l.setIfInBounds i true), sched ops qs n (l.setIfInBounds j true) with
          | some a, some b => some (.alt (.op i false a) (.op j false b))
          | _, _ => none
        | [i, j, k] => match sched ops qs n (l.setIfInBounds i true), sched ops qs n (l.setIfInBounds j true), sched ops qs n (l.setIfInBounds k true) with
          | some a, some b, some c => some (.alt (.op i false a) (.alt (.op j false b) (.op k false c)))
          | _, _, _ => none
        | _ => none
def compSched (P : Program) (ops : Array Oper) : SD → Option DX
  | .nil => some .nil
  | .op i b r => match ops[i]? with
    | some o => match compO P ops o, compSched P ops r with
      | some x, some l => some (.op i b x l)
      | _, _ => none
    | none => none
  | .alt a b => match compSched P ops a, compSched P ops b with
    | some a, some b => some (.alt a b)
    | _, _ => none
/-- Where a pointer comes from: a slot from outside, and fields. -/
def rootOf (ops : Array Oper) : Nat → Operand → Option (Nat × List Nat)
  | 0, _ => none
  | n + 1, .tmp t => match ops.find? (fun o => o.dst == some t) with
    | some o => match o.op with
      | .move y => rootOf ops n y
      | .assign y => rootOf ops n y
      | .nilCheck y => rootOf ops n y
      | .fieldAddr _ y f => (rootOf ops n y).map fun (r, p) => (r, f :: p)
      | .indexAddr _ y _ => (rootOf ops n y).map fun (r, p) => (r, 1000000 :: p)
      | .load _ y => (rootOf ops n y).map fun (r, p) => (r, 2000000 :: p)
      | _ => none
    | none => some (t, [])
  | _, _ => none
/-- A load of what the region stores. -/
def hot (ops : Array Oper) (o : Oper) : Bool := match o.op with
  | .load _ x => match rootOf ops 20 x with
    | some r => ops.any fun s => match s.op with
      | .store _ y _ => rootOf ops 20 y == some r
      | _ => false
    | none => false
  | _ => false
def isLd (o : Oper) : Bool := match o.op with
  | .load .. => true
  | _ => false
/-- A load of what the region made. -/
def madeHere (ops : Array Oper) (o : Oper) : Bool := match o.op with
  | .load _ x => match rootOf ops 20 x with
    | some _ => false
    | none => true
  | _ => false
/-- Loads that are not quiet: all (1), those of what the region made (2). -/
def loudLd (ops : Array Oper) (b : Nat) (o : Oper) : Bool := match b with
  | 0 => false
  | 1 => isLd o
  | _ => madeHere ops o
def quiets (P : Program) (ops : Array Oper) (b : Nat) : Array Bool := ops.map fun o => ((match comp1 P o with
  | some x => x.quiet
  | none => false) && !hot ops o) && !(loudLd ops b o)
def opKey : Opd → Nat
  | .tmp t => t
  | _ => 0
/-- A range over a map, as it is laid: the iterator, its rounds. -/
structure RQ where
  ops0 : Array Oper
  pre : List Oper
  o0 : Oper
  T : TypeId
  x : Operand
  it : Nat
  t1 : Nat
  tok : Nat
  t2 : Nat
  b7 : Nat
  ops2 : Array Oper
  tl : List Oper
  rest : Code
def rangeAt (a b : Code) : Option RQ :=
  match a, b with
  | .region _ ops0 false, .block id (.loop (.seq (.region _ ops1 false) (.seq (.cond (.tmp tok) .skip (.exit id')) (.block b7 (.seq (.region _ ops2 false) rest))))) =>
    match ops0.toList.getLast?, ops1.toList, ops2.toList with
    | some o0, [o1, o2], o3 :: tl =>
      match o0.op, o0.dst, o0.guard with
      | .range T x, some it, none => match o1.op, o1.dst, o1.guard with
        | .next (.tmp it1) false, some t1, none => match o2.op, o2.dst, o2.guard with
          | .extract (.tmp t1') 0, some tok', none => match o3.op, o3.dst, o3.guard with
            | .entry (.tmp it2), some t2, none =>
              match it == it1 && it == it2 && t1 == t1' && tok == tok' && id == id' && !(t1 == it) && !(tok == it) && !(t2 == it) && !(t1 == tok) with
              | true => some ⟨ops0, ops0.toList.dropLast, o0, T, x, it, t1, tok, t2, b7, ops2, tl, rest⟩
              | false => none
            | _, _, _ => none
          | _, _, _ => none
        | _, _, _ => none
      | _, _, _ => none
    | _, _, _ => none
  | _, _ => none
/-- j: the places where ways meet that are kept as such: a condition by its slot, a drawn region by 1000 + its number. -/
def comp (P : Program) (j : List Nat) : Nat → Code → Option X
  | 0, _ => none
  | n + 1, c => match c with
    | .skip => some .skip
    | .region _ ops false => (compOs P ops ops.toList).map .ops
    | .region id ops true => match Region.noSelect ops, sched ops (quiets P ops (match j.contains (3000 + id), j.contains (4000 + id) with | true, _ => 1 | false, true => 2 | _, _ => 0)) ops.size (Array.replicate ops.size false) with
      | true, some s => (compSched P ops s).map fun d => match j.contains (1000 + id) with
        | true => .join (.drawn id d)
        | false => .drawn id d
      | _, _ => none
    | .seq a b => match rangeAt a b with
      | some q => match compOs P q.ops0 q.pre, mapTyI P q.T, opd q.x, compOs P q.ops2 q.tl, comp P j n q.rest with
        | some pre, some _, some mp, some tl, some y => some (.mloop pre mp q.it q.t1 q.tok q.t2 (.block q.b7 (.seq (.ops tl) y)))
        | _, _, _, _, _ => none
      | none => match comp P j n a, comp P j n b with
        | some x, some y => some (.seq x y)
        | _, _ => none
    | .cond c a b => match opd c, comp P j n a, comp P j n b with
      | some c, some x, some y => some (match j.contains (opKey c) with
        | true => .join (.cond c x y)
        | false => .cond c x y)
      | _, _, _ => none
    | .block id a => (comp P j n a).map fun x => match j.contains (2000 + id) with
      | true => .join (.block id x)
      | false => .block id x
    | .loop a => (comp P j n a).map .loop
    | .exit id => some (.exit id)
    | .ret => some .ret
    | .rangeFunc g ps x y => some (.rfun (.rangeFunc g ps x y))
    | _ => none
def compRes (P : Program) : List ResultVar → Option (List XRes)
  | [] => some []
  | .tmp t :: r => (compRes P r).map (.tmp t :: ·)
  | .cell t ty :: r => match agOf P ty, compRes P r with
    | some ag, some l => some (.cell t ag :: l)
    | _, _ => none
def compFj (P : Program) (j : List Nat) (f : FuncId) : Option XF :=
  match P.funcs[f]? with
  | some fn => match fn.body, compRes P fn.results.toList with
    | some c, some r => (comp P j 1000 c).map (XF.mk fn.ntmps r)
    | _, _ => none
  | none => none
/-- The ranges over functions in a code. -/
def rfs : Code → List Code
  | .seq a b => rfs a ++ rfs b
  | .cond _ a b => rfs a ++ rfs b
  | .block _ a => rfs a
  | .loop a => rfs a
  | .rangeFunc g ps x y => [.rangeFunc g ps x y]
  | _ => []
/-- The range over a function in a function's body. -/
def rfOf (P : Program) (f : FuncId) : Code := match P.funcs[f]? with
  | some fn => match fn.body with
    | some c => (rfs c).headD .skip
    | none => .skip
  | none => .skip
/-- The body of a range over a function. -/
def rfBody : Code → Code
  | .rangeFunc _ _ _ b => b
  | _ => .skip
def compF (P : Program) (f : FuncId) : Option XF := compFj P [] f
end Go.Proofs.Ytccfcenhpmdemaa.E
